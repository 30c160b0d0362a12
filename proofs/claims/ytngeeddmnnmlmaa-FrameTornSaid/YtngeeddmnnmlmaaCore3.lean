/-
  A part of the proof whose end is the text 'YtngeeddmnnmlmaaLaw1': the verified evaluator ('Core') and what it finds of the functions ('Fn').
-/
import Derived.Test.YtngeeddmnnmlmaaCore2
import Derived.WalkKit
import Derived.OpenShut
import Derived.ChangeOld
import Derived.Below
import Derived.Carry
import Derived.SizedLaws
import Derived.JoinedOf
set_option linter.all false
set_option linter.unusedVariables false
set_option linter.unusedSimpArgs false
set_option linter.unnecessarySimpa false
section
set_option linter.unusedVariables false
set_option linter.unusedSimpArgs false
/-! Readers of arguments and of loop states. -/
namespace Go.Rf
variable {β : Type}
structure Range where
  from_ : Cell
  to : Cell
  deriving DecidableEq
structure Edit where
  kind : Int
  cell : Cell
  name : List UInt8
  text : List UInt8
  range : Range
  deriving DecidableEq
structure Reply where
  kind : Int
  version : Int
  err : Int
  cells : List Shown
  deriving DecidableEq
def Tok.lv (x : Tok) : List Lf := [⟨.int .i64, x.kind⟩, ⟨.int .i64, x.at_⟩, ⟨.str, x.text⟩]
def Shown.lv (x : Shown) : List Lf := [⟨.str, x.cell.sheet⟩, ⟨.int .i64, x.cell.col⟩, ⟨.int .i64, x.cell.row⟩, ⟨.int .i64, x.val.kind⟩, ⟨.int .i64, x.val.n⟩, ⟨.str, x.val.s⟩]
def Range.lv (x : Range) : List Lf := [⟨.str, x.from_.sheet⟩, ⟨.int .i64, x.from_.col⟩, ⟨.int .i64, x.from_.row⟩, ⟨.str, x.to.sheet⟩, ⟨.int .i64, x.to.col⟩, ⟨.int .i64, x.to.row⟩]
def Edit.lv (x : Edit) : List Lf := [⟨.int .i64, x.kind⟩, ⟨.str, x.cell.sheet⟩, ⟨.int .i64, x.cell.col⟩, ⟨.int .i64, x.cell.row⟩, ⟨.str, x.name⟩, ⟨.str, x.text⟩, ⟨.str, x.range.from_.sheet⟩, ⟨.int .i64, x.range.from_.col⟩, ⟨.int .i64, x.range.from_.row⟩, ⟨.str, x.range.to.sheet⟩, ⟨.int .i64, x.range.to.col⟩, ⟨.int .i64, x.range.to.row⟩]
def Reply.lv (x : Reply) : List Lf := [⟨.int .i64, x.kind⟩, ⟨.int .i64, x.version⟩, ⟨.int .i64, x.err⟩, ⟨.sl 2, x.cells⟩]
abbrev tW (x : Int) : TV' := .leaf ⟨.int .u64, x⟩ false
abbrev tE (x : Bool) : TV' := .leaf ⟨.err, x⟩ false
abbrev vW (x : Int) : RV' := .v (tW x)
abbrev vE (x : Bool) : RV' := .v (tE x)
/-- No more of them. -/
def a0 (t : Tree β) : List TV' → Tree β
  | [] => t
  | _ => .fail
theorem a0_r {t : Tree β} {xs : List TV'} {r : β} (h : (a0 t xs).reach r) : xs = [] ∧ t.reach r := by
  cases xs with | nil => exact ⟨rfl, h⟩ | cons => cases h
/-- No more of them. -/
def r0 (t : Tree β) : List RV' → Tree β
  | [] => t
  | _ => .fail
theorem r0_r {t : Tree β} {xs : List RV'} {r : β} (h : (r0 t xs).reach r) : xs = [] ∧ t.reach r := by
  cases xs with | nil => exact ⟨rfl, h⟩ | cons => cases h
/-- Whatever it is. -/
def rX (k : RV' → List RV' → Tree β) : List RV' → Tree β
  | x :: xs => k x xs
  | _ => .fail
theorem rX_r {k : RV' → List RV' → Tree β} {vs : List RV'} {r : β} (h : (rX k vs).reach r) : ∃ (x : RV') (xs : List RV'), vs = x :: xs ∧ (k x xs).reach r := by
  cases vs with | nil => cases h | cons x xs => exact ⟨x, xs, rfl, h⟩
def rK (k : Bool → List RV' → Tree β) : List RV' → Tree β
  | .kn x :: xs => k x xs
  | _ => .fail
theorem rK_r {k : Bool → List RV' → Tree β} {vs : List RV'} {r : β} (h : (rK k vs).reach r) : ∃ (x : Bool) (xs : List RV'), vs = .kn x :: xs ∧ (k x xs).reach r := by
  unfold rK at h; split at h
  case h_2 => cases h
  exact ⟨_, _, rfl, h⟩
def aP (j : Nat) (k : List TV' → Tree β) : List TV' → Tree β
  | .leaf ⟨.ptr, some (b, 0)⟩ false :: xs => bif Nat.beq b j then k xs else .fail
  | _ => .fail
theorem aP_r {j : Nat} {k : List TV' → Tree β} {vs : List TV'} {r : β} (h : (aP j k vs).reach r) : ∃ xs : List TV', vs = tP j 0 :: xs ∧ (k xs).reach r := by
  unfold aP at h; split at h
  case h_2 => cases h
  rename_i b xs
  cases hb : Nat.beq b j with
  | false => rw [hb] at h; cases h
  | true => rw [hb] at h; obtain rfl := nbeq hb; exact ⟨_, rfl, h⟩
def rP (j : Nat) (k : List RV' → Tree β) : List RV' → Tree β
  | .v (.leaf ⟨.ptr, some (b, 0)⟩ false) :: xs => bif Nat.beq b j then k xs else .fail
  | _ => .fail
theorem rP_r {j : Nat} {k : List RV' → Tree β} {vs : List RV'} {r : β} (h : (rP j k vs).reach r) : ∃ xs : List RV', vs = .v (tP j 0) :: xs ∧ (k xs).reach r := by
  unfold rP at h; split at h
  case h_2 => cases h
  rename_i b xs
  cases hb : Nat.beq b j with
  | false => rw [hb] at h; cases h
  | true => rw [hb] at h; obtain rfl := nbeq hb; exact ⟨_, rfl, h⟩
/-- A variable of that type. -/
def rBlk (t : TypeId) (k : List (Lf × Bool) → List RV' → Tree β) : List RV' → Tree β
  | .blk u cs :: xs => bif Nat.beq u t then k cs xs else .fail
  | _ => .fail
theorem rBlk_r {t : TypeId} {k : List (Lf × Bool) → List RV' → Tree β} {vs : List RV'} {r : β} (h : (rBlk t k vs).reach r) : ∃ (cs : List (Lf × Bool)) (xs : List RV'), vs = .blk t cs :: xs ∧ (k cs xs).reach r := by
  unfold rBlk at h; split at h
  case h_2 => cases h
  rename_i u cs xs
  cases hb : Nat.beq u t with
  | false => rw [hb] at h; cases h
  | true => rw [hb] at h; obtain rfl := nbeq hb; exact ⟨_, _, rfl, h⟩
def aS (k : List UInt8 → List TV' → Tree β) : List TV' → Tree β
  | .leaf ⟨.str, x⟩ false :: xs => k x xs
  | _ => .fail
theorem aS_r {k : List UInt8 → List TV' → Tree β} {vs : List TV'} {r : β} (h : (aS k vs).reach r) : ∃ (x : List UInt8) (xs : List TV'), vs = tS x :: xs ∧ (k x xs).reach r := by
  unfold aS at h; split at h
  case h_2 => cases h
  exact ⟨_, _, rfl, h⟩
def rS (k : List UInt8 → List RV' → Tree β) : List RV' → Tree β
  | .v (.leaf ⟨.str, x⟩ false) :: xs => k x xs
  | _ => .fail
theorem rS_r {k : List UInt8 → List RV' → Tree β} {vs : List RV'} {r : β} (h : (rS k vs).reach r) : ∃ (x : List UInt8) (xs : List RV'), vs = .v (tS x) :: xs ∧ (k x xs).reach r := by
  unfold rS at h; split at h
  case h_2 => cases h
  exact ⟨_, _, rfl, h⟩
def aI (k : Int → List TV' → Tree β) : List TV' → Tree β
  | .leaf ⟨.int .i64, x⟩ false :: xs => k x xs
  | _ => .fail
theorem aI_r {k : Int → List TV' → Tree β} {vs : List TV'} {r : β} (h : (aI k vs).reach r) : ∃ (x : Int) (xs : List TV'), vs = tI x :: xs ∧ (k x xs).reach r := by
  unfold aI at h; split at h
  case h_2 => cases h
  exact ⟨_, _, rfl, h⟩
def rI (k : Int → List RV' → Tree β) : List RV' → Tree β
  | .v (.leaf ⟨.int .i64, x⟩ false) :: xs => k x xs
  | _ => .fail
theorem rI_r {k : Int → List RV' → Tree β} {vs : List RV'} {r : β} (h : (rI k vs).reach r) : ∃ (x : Int) (xs : List RV'), vs = .v (tI x) :: xs ∧ (k x xs).reach r := by
  unfold rI at h; split at h
  case h_2 => cases h
  exact ⟨_, _, rfl, h⟩
def aU (k : Int → List TV' → Tree β) : List TV' → Tree β
  | .leaf ⟨.int .u8, x⟩ false :: xs => k x xs
  | _ => .fail
theorem aU_r {k : Int → List TV' → Tree β} {vs : List TV'} {r : β} (h : (aU k vs).reach r) : ∃ (x : Int) (xs : List TV'), vs = tU x :: xs ∧ (k x xs).reach r := by
  unfold aU at h; split at h
  case h_2 => cases h
  exact ⟨_, _, rfl, h⟩
def rU (k : Int → List RV' → Tree β) : List RV' → Tree β
  | .v (.leaf ⟨.int .u8, x⟩ false) :: xs => k x xs
  | _ => .fail
theorem rU_r {k : Int → List RV' → Tree β} {vs : List RV'} {r : β} (h : (rU k vs).reach r) : ∃ (x : Int) (xs : List RV'), vs = .v (tU x) :: xs ∧ (k x xs).reach r := by
  unfold rU at h; split at h
  case h_2 => cases h
  exact ⟨_, _, rfl, h⟩
def aW (k : Int → List TV' → Tree β) : List TV' → Tree β
  | .leaf ⟨.int .u64, x⟩ false :: xs => k x xs
  | _ => .fail
theorem aW_r {k : Int → List TV' → Tree β} {vs : List TV'} {r : β} (h : (aW k vs).reach r) : ∃ (x : Int) (xs : List TV'), vs = tW x :: xs ∧ (k x xs).reach r := by
  unfold aW at h; split at h
  case h_2 => cases h
  exact ⟨_, _, rfl, h⟩
def rW (k : Int → List RV' → Tree β) : List RV' → Tree β
  | .v (.leaf ⟨.int .u64, x⟩ false) :: xs => k x xs
  | _ => .fail
theorem rW_r {k : Int → List RV' → Tree β} {vs : List RV'} {r : β} (h : (rW k vs).reach r) : ∃ (x : Int) (xs : List RV'), vs = .v (tW x) :: xs ∧ (k x xs).reach r := by
  unfold rW at h; split at h
  case h_2 => cases h
  exact ⟨_, _, rfl, h⟩
def aB (k : Bool → List TV' → Tree β) : List TV' → Tree β
  | .leaf ⟨.bool, x⟩ false :: xs => k x xs
  | _ => .fail
theorem aB_r {k : Bool → List TV' → Tree β} {vs : List TV'} {r : β} (h : (aB k vs).reach r) : ∃ (x : Bool) (xs : List TV'), vs = tB x :: xs ∧ (k x xs).reach r := by
  unfold aB at h; split at h
  case h_2 => cases h
  exact ⟨_, _, rfl, h⟩
def rB (k : Bool → List RV' → Tree β) : List RV' → Tree β
  | .v (.leaf ⟨.bool, x⟩ false) :: xs => k x xs
  | _ => .fail
theorem rB_r {k : Bool → List RV' → Tree β} {vs : List RV'} {r : β} (h : (rB k vs).reach r) : ∃ (x : Bool) (xs : List RV'), vs = .v (tB x) :: xs ∧ (k x xs).reach r := by
  unfold rB at h; split at h
  case h_2 => cases h
  exact ⟨_, _, rfl, h⟩
def aF (k : Nat → List TV' → Tree β) : List TV' → Tree β
  | .leaf ⟨.fn, some x⟩ false :: xs => k x xs
  | _ => .fail
theorem aF_r {k : Nat → List TV' → Tree β} {vs : List TV'} {r : β} (h : (aF k vs).reach r) : ∃ (x : Nat) (xs : List TV'), vs = tF (some x) :: xs ∧ (k x xs).reach r := by
  unfold aF at h; split at h
  case h_2 => cases h
  exact ⟨_, _, rfl, h⟩
def rF (k : Nat → List RV' → Tree β) : List RV' → Tree β
  | .v (.leaf ⟨.fn, some x⟩ false) :: xs => k x xs
  | _ => .fail
theorem rF_r {k : Nat → List RV' → Tree β} {vs : List RV'} {r : β} (h : (rF k vs).reach r) : ∃ (x : Nat) (xs : List RV'), vs = .v (tF (some x)) :: xs ∧ (k x xs).reach r := by
  unfold rF at h; split at h
  case h_2 => cases h
  exact ⟨_, _, rfl, h⟩
def aE (k : Bool → List TV' → Tree β) : List TV' → Tree β
  | .leaf ⟨.err, x⟩ false :: xs => k x xs
  | _ => .fail
theorem aE_r {k : Bool → List TV' → Tree β} {vs : List TV'} {r : β} (h : (aE k vs).reach r) : ∃ (x : Bool) (xs : List TV'), vs = tE x :: xs ∧ (k x xs).reach r := by
  unfold aE at h; split at h
  case h_2 => cases h
  exact ⟨_, _, rfl, h⟩
def rE (k : Bool → List RV' → Tree β) : List RV' → Tree β
  | .v (.leaf ⟨.err, x⟩ false) :: xs => k x xs
  | _ => .fail
theorem rE_r {k : Bool → List RV' → Tree β} {vs : List RV'} {r : β} (h : (rE k vs).reach r) : ∃ (x : Bool) (xs : List RV'), vs = .v (tE x) :: xs ∧ (k x xs).reach r := by
  unfold rE at h; split at h
  case h_2 => cases h
  exact ⟨_, _, rfl, h⟩
def aBytes (k : List UInt8 → List TV' → Tree β) : List TV' → Tree β
  | .leaf ⟨.sl 0, x⟩ false :: xs => k x xs
  | _ => .fail
theorem aBytes_r {k : List UInt8 → List TV' → Tree β} {vs : List TV'} {r : β} (h : (aBytes k vs).reach r) : ∃ (x : List UInt8) (xs : List TV'), vs = tL 0 x false :: xs ∧ (k x xs).reach r := by
  unfold aBytes at h; split at h
  case h_2 => cases h
  exact ⟨_, _, rfl, h⟩
def rBytes (k : List UInt8 → List RV' → Tree β) : List RV' → Tree β
  | .v (.leaf ⟨.sl 0, x⟩ false) :: xs => k x xs
  | _ => .fail
theorem rBytes_r {k : List UInt8 → List RV' → Tree β} {vs : List RV'} {r : β} (h : (rBytes k vs).reach r) : ∃ (x : List UInt8) (xs : List RV'), vs = .v (tL 0 x false) :: xs ∧ (k x xs).reach r := by
  unfold rBytes at h; split at h
  case h_2 => cases h
  exact ⟨_, _, rfl, h⟩
def aBytesO (k : List UInt8 → List TV' → Tree β) : List TV' → Tree β
  | .leaf ⟨.sl 0, x⟩ true :: xs => k x xs
  | _ => .fail
theorem aBytesO_r {k : List UInt8 → List TV' → Tree β} {vs : List TV'} {r : β} (h : (aBytesO k vs).reach r) : ∃ (x : List UInt8) (xs : List TV'), vs = tL 0 x true :: xs ∧ (k x xs).reach r := by
  unfold aBytesO at h; split at h
  case h_2 => cases h
  exact ⟨_, _, rfl, h⟩
def rBytesO (k : List UInt8 → List RV' → Tree β) : List RV' → Tree β
  | .v (.leaf ⟨.sl 0, x⟩ true) :: xs => k x xs
  | _ => .fail
theorem rBytesO_r {k : List UInt8 → List RV' → Tree β} {vs : List RV'} {r : β} (h : (rBytesO k vs).reach r) : ∃ (x : List UInt8) (xs : List RV'), vs = .v (tL 0 x true) :: xs ∧ (k x xs).reach r := by
  unfold rBytesO at h; split at h
  case h_2 => cases h
  exact ⟨_, _, rfl, h⟩
def aToks (k : List Tok → List TV' → Tree β) : List TV' → Tree β
  | .leaf ⟨.sl 1, x⟩ false :: xs => k x xs
  | _ => .fail
theorem aToks_r {k : List Tok → List TV' → Tree β} {vs : List TV'} {r : β} (h : (aToks k vs).reach r) : ∃ (x : List Tok) (xs : List TV'), vs = tL 1 x false :: xs ∧ (k x xs).reach r := by
  unfold aToks at h; split at h
  case h_2 => cases h
  exact ⟨_, _, rfl, h⟩
def rToks (k : List Tok → List RV' → Tree β) : List RV' → Tree β
  | .v (.leaf ⟨.sl 1, x⟩ false) :: xs => k x xs
  | _ => .fail
theorem rToks_r {k : List Tok → List RV' → Tree β} {vs : List RV'} {r : β} (h : (rToks k vs).reach r) : ∃ (x : List Tok) (xs : List RV'), vs = .v (tL 1 x false) :: xs ∧ (k x xs).reach r := by
  unfold rToks at h; split at h
  case h_2 => cases h
  exact ⟨_, _, rfl, h⟩
def aToksO (k : List Tok → List TV' → Tree β) : List TV' → Tree β
  | .leaf ⟨.sl 1, x⟩ true :: xs => k x xs
  | _ => .fail
theorem aToksO_r {k : List Tok → List TV' → Tree β} {vs : List TV'} {r : β} (h : (aToksO k vs).reach r) : ∃ (x : List Tok) (xs : List TV'), vs = tL 1 x true :: xs ∧ (k x xs).reach r := by
  unfold aToksO at h; split at h
  case h_2 => cases h
  exact ⟨_, _, rfl, h⟩
def rToksO (k : List Tok → List RV' → Tree β) : List RV' → Tree β
  | .v (.leaf ⟨.sl 1, x⟩ true) :: xs => k x xs
  | _ => .fail
theorem rToksO_r {k : List Tok → List RV' → Tree β} {vs : List RV'} {r : β} (h : (rToksO k vs).reach r) : ∃ (x : List Tok) (xs : List RV'), vs = .v (tL 1 x true) :: xs ∧ (k x xs).reach r := by
  unfold rToksO at h; split at h
  case h_2 => cases h
  exact ⟨_, _, rfl, h⟩
def aShowns (k : List Shown → List TV' → Tree β) : List TV' → Tree β
  | .leaf ⟨.sl 2, x⟩ false :: xs => k x xs
  | _ => .fail
theorem aShowns_r {k : List Shown → List TV' → Tree β} {vs : List TV'} {r : β} (h : (aShowns k vs).reach r) : ∃ (x : List Shown) (xs : List TV'), vs = tL 2 x false :: xs ∧ (k x xs).reach r := by
  unfold aShowns at h; split at h
  case h_2 => cases h
  exact ⟨_, _, rfl, h⟩
def rShowns (k : List Shown → List RV' → Tree β) : List RV' → Tree β
  | .v (.leaf ⟨.sl 2, x⟩ false) :: xs => k x xs
  | _ => .fail
theorem rShowns_r {k : List Shown → List RV' → Tree β} {vs : List RV'} {r : β} (h : (rShowns k vs).reach r) : ∃ (x : List Shown) (xs : List RV'), vs = .v (tL 2 x false) :: xs ∧ (k x xs).reach r := by
  unfold rShowns at h; split at h
  case h_2 => cases h
  exact ⟨_, _, rfl, h⟩
def aShownsO (k : List Shown → List TV' → Tree β) : List TV' → Tree β
  | .leaf ⟨.sl 2, x⟩ true :: xs => k x xs
  | _ => .fail
theorem aShownsO_r {k : List Shown → List TV' → Tree β} {vs : List TV'} {r : β} (h : (aShownsO k vs).reach r) : ∃ (x : List Shown) (xs : List TV'), vs = tL 2 x true :: xs ∧ (k x xs).reach r := by
  unfold aShownsO at h; split at h
  case h_2 => cases h
  exact ⟨_, _, rfl, h⟩
def rShownsO (k : List Shown → List RV' → Tree β) : List RV' → Tree β
  | .v (.leaf ⟨.sl 2, x⟩ true) :: xs => k x xs
  | _ => .fail
theorem rShownsO_r {k : List Shown → List RV' → Tree β} {vs : List RV'} {r : β} (h : (rShownsO k vs).reach r) : ∃ (x : List Shown) (xs : List RV'), vs = .v (tL 2 x true) :: xs ∧ (k x xs).reach r := by
  unfold rShownsO at h; split at h
  case h_2 => cases h
  exact ⟨_, _, rfl, h⟩
def aVals (k : List Val → List TV' → Tree β) : List TV' → Tree β
  | .leaf ⟨.sl 3, x⟩ false :: xs => k x xs
  | _ => .fail
theorem aVals_r {k : List Val → List TV' → Tree β} {vs : List TV'} {r : β} (h : (aVals k vs).reach r) : ∃ (x : List Val) (xs : List TV'), vs = tL 3 x false :: xs ∧ (k x xs).reach r := by
  unfold aVals at h; split at h
  case h_2 => cases h
  exact ⟨_, _, rfl, h⟩
def rVals (k : List Val → List RV' → Tree β) : List RV' → Tree β
  | .v (.leaf ⟨.sl 3, x⟩ false) :: xs => k x xs
  | _ => .fail
theorem rVals_r {k : List Val → List RV' → Tree β} {vs : List RV'} {r : β} (h : (rVals k vs).reach r) : ∃ (x : List Val) (xs : List RV'), vs = .v (tL 3 x false) :: xs ∧ (k x xs).reach r := by
  unfold rVals at h; split at h
  case h_2 => cases h
  exact ⟨_, _, rfl, h⟩
def aValsO (k : List Val → List TV' → Tree β) : List TV' → Tree β
  | .leaf ⟨.sl 3, x⟩ true :: xs => k x xs
  | _ => .fail
theorem aValsO_r {k : List Val → List TV' → Tree β} {vs : List TV'} {r : β} (h : (aValsO k vs).reach r) : ∃ (x : List Val) (xs : List TV'), vs = tL 3 x true :: xs ∧ (k x xs).reach r := by
  unfold aValsO at h; split at h
  case h_2 => cases h
  exact ⟨_, _, rfl, h⟩
def rValsO (k : List Val → List RV' → Tree β) : List RV' → Tree β
  | .v (.leaf ⟨.sl 3, x⟩ true) :: xs => k x xs
  | _ => .fail
theorem rValsO_r {k : List Val → List RV' → Tree β} {vs : List RV'} {r : β} (h : (rValsO k vs).reach r) : ∃ (x : List Val) (xs : List RV'), vs = .v (tL 3 x true) :: xs ∧ (k x xs).reach r := by
  unfold rValsO at h; split at h
  case h_2 => cases h
  exact ⟨_, _, rfl, h⟩
def aRows (k : List (List Val) → List TV' → Tree β) : List TV' → Tree β
  | .leaf ⟨.sl 4, x⟩ false :: xs => k x xs
  | _ => .fail
theorem aRows_r {k : List (List Val) → List TV' → Tree β} {vs : List TV'} {r : β} (h : (aRows k vs).reach r) : ∃ (x : List (List Val)) (xs : List TV'), vs = tL 4 x false :: xs ∧ (k x xs).reach r := by
  unfold aRows at h; split at h
  case h_2 => cases h
  exact ⟨_, _, rfl, h⟩
def rRows (k : List (List Val) → List RV' → Tree β) : List RV' → Tree β
  | .v (.leaf ⟨.sl 4, x⟩ false) :: xs => k x xs
  | _ => .fail
theorem rRows_r {k : List (List Val) → List RV' → Tree β} {vs : List RV'} {r : β} (h : (rRows k vs).reach r) : ∃ (x : List (List Val)) (xs : List RV'), vs = .v (tL 4 x false) :: xs ∧ (k x xs).reach r := by
  unfold rRows at h; split at h
  case h_2 => cases h
  exact ⟨_, _, rfl, h⟩
def aRowsO (k : List (List Val) → List TV' → Tree β) : List TV' → Tree β
  | .leaf ⟨.sl 4, x⟩ true :: xs => k x xs
  | _ => .fail
theorem aRowsO_r {k : List (List Val) → List TV' → Tree β} {vs : List TV'} {r : β} (h : (aRowsO k vs).reach r) : ∃ (x : List (List Val)) (xs : List TV'), vs = tL 4 x true :: xs ∧ (k x xs).reach r := by
  unfold aRowsO at h; split at h
  case h_2 => cases h
  exact ⟨_, _, rfl, h⟩
def rRowsO (k : List (List Val) → List RV' → Tree β) : List RV' → Tree β
  | .v (.leaf ⟨.sl 4, x⟩ true) :: xs => k x xs
  | _ => .fail
theorem rRowsO_r {k : List (List Val) → List RV' → Tree β} {vs : List RV'} {r : β} (h : (rRowsO k vs).reach r) : ∃ (x : List (List Val)) (xs : List RV'), vs = .v (tL 4 x true) :: xs ∧ (k x xs).reach r := by
  unfold rRowsO at h; split at h
  case h_2 => cases h
  exact ⟨_, _, rfl, h⟩
def aStrs (k : List (List UInt8) → List TV' → Tree β) : List TV' → Tree β
  | .leaf ⟨.sl 5, x⟩ false :: xs => k x xs
  | _ => .fail
theorem aStrs_r {k : List (List UInt8) → List TV' → Tree β} {vs : List TV'} {r : β} (h : (aStrs k vs).reach r) : ∃ (x : List (List UInt8)) (xs : List TV'), vs = tL 5 x false :: xs ∧ (k x xs).reach r := by
  unfold aStrs at h; split at h
  case h_2 => cases h
  exact ⟨_, _, rfl, h⟩
def rStrs (k : List (List UInt8) → List RV' → Tree β) : List RV' → Tree β
  | .v (.leaf ⟨.sl 5, x⟩ false) :: xs => k x xs
  | _ => .fail
theorem rStrs_r {k : List (List UInt8) → List RV' → Tree β} {vs : List RV'} {r : β} (h : (rStrs k vs).reach r) : ∃ (x : List (List UInt8)) (xs : List RV'), vs = .v (tL 5 x false) :: xs ∧ (k x xs).reach r := by
  unfold rStrs at h; split at h
  case h_2 => cases h
  exact ⟨_, _, rfl, h⟩
def aStrsO (k : List (List UInt8) → List TV' → Tree β) : List TV' → Tree β
  | .leaf ⟨.sl 5, x⟩ true :: xs => k x xs
  | _ => .fail
theorem aStrsO_r {k : List (List UInt8) → List TV' → Tree β} {vs : List TV'} {r : β} (h : (aStrsO k vs).reach r) : ∃ (x : List (List UInt8)) (xs : List TV'), vs = tL 5 x true :: xs ∧ (k x xs).reach r := by
  unfold aStrsO at h; split at h
  case h_2 => cases h
  exact ⟨_, _, rfl, h⟩
def rStrsO (k : List (List UInt8) → List RV' → Tree β) : List RV' → Tree β
  | .v (.leaf ⟨.sl 5, x⟩ true) :: xs => k x xs
  | _ => .fail
theorem rStrsO_r {k : List (List UInt8) → List RV' → Tree β} {vs : List RV'} {r : β} (h : (rStrsO k vs).reach r) : ∃ (x : List (List UInt8)) (xs : List RV'), vs = .v (tL 5 x true) :: xs ∧ (k x xs).reach r := by
  unfold rStrsO at h; split at h
  case h_2 => cases h
  exact ⟨_, _, rfl, h⟩
def aNodes (k : List Node → List TV' → Tree β) : List TV' → Tree β
  | .leaf ⟨.sl 7, x⟩ false :: xs => k x xs
  | _ => .fail
theorem aNodes_r {k : List Node → List TV' → Tree β} {vs : List TV'} {r : β} (h : (aNodes k vs).reach r) : ∃ (x : List Node) (xs : List TV'), vs = tL 7 x false :: xs ∧ (k x xs).reach r := by
  unfold aNodes at h; split at h
  case h_2 => cases h
  exact ⟨_, _, rfl, h⟩
def rNodes (k : List Node → List RV' → Tree β) : List RV' → Tree β
  | .v (.leaf ⟨.sl 7, x⟩ false) :: xs => k x xs
  | _ => .fail
theorem rNodes_r {k : List Node → List RV' → Tree β} {vs : List RV'} {r : β} (h : (rNodes k vs).reach r) : ∃ (x : List Node) (xs : List RV'), vs = .v (tL 7 x false) :: xs ∧ (k x xs).reach r := by
  unfold rNodes at h; split at h
  case h_2 => cases h
  exact ⟨_, _, rfl, h⟩
def aNodesO (k : List Node → List TV' → Tree β) : List TV' → Tree β
  | .leaf ⟨.sl 7, x⟩ true :: xs => k x xs
  | _ => .fail
theorem aNodesO_r {k : List Node → List TV' → Tree β} {vs : List TV'} {r : β} (h : (aNodesO k vs).reach r) : ∃ (x : List Node) (xs : List TV'), vs = tL 7 x true :: xs ∧ (k x xs).reach r := by
  unfold aNodesO at h; split at h
  case h_2 => cases h
  exact ⟨_, _, rfl, h⟩
def rNodesO (k : List Node → List RV' → Tree β) : List RV' → Tree β
  | .v (.leaf ⟨.sl 7, x⟩ true) :: xs => k x xs
  | _ => .fail
theorem rNodesO_r {k : List Node → List RV' → Tree β} {vs : List RV'} {r : β} (h : (rNodesO k vs).reach r) : ∃ (x : List Node) (xs : List RV'), vs = .v (tL 7 x true) :: xs ∧ (k x xs).reach r := by
  unfold rNodesO at h; split at h
  case h_2 => cases h
  exact ⟨_, _, rfl, h⟩
def aInts (k : List Int → List TV' → Tree β) : List TV' → Tree β
  | .leaf ⟨.sl 8, x⟩ false :: xs => k x xs
  | _ => .fail
theorem aInts_r {k : List Int → List TV' → Tree β} {vs : List TV'} {r : β} (h : (aInts k vs).reach r) : ∃ (x : List Int) (xs : List TV'), vs = tL 8 x false :: xs ∧ (k x xs).reach r := by
  unfold aInts at h; split at h
  case h_2 => cases h
  exact ⟨_, _, rfl, h⟩
def rInts (k : List Int → List RV' → Tree β) : List RV' → Tree β
  | .v (.leaf ⟨.sl 8, x⟩ false) :: xs => k x xs
  | _ => .fail
theorem rInts_r {k : List Int → List RV' → Tree β} {vs : List RV'} {r : β} (h : (rInts k vs).reach r) : ∃ (x : List Int) (xs : List RV'), vs = .v (tL 8 x false) :: xs ∧ (k x xs).reach r := by
  unfold rInts at h; split at h
  case h_2 => cases h
  exact ⟨_, _, rfl, h⟩
def aIntsO (k : List Int → List TV' → Tree β) : List TV' → Tree β
  | .leaf ⟨.sl 8, x⟩ true :: xs => k x xs
  | _ => .fail
theorem aIntsO_r {k : List Int → List TV' → Tree β} {vs : List TV'} {r : β} (h : (aIntsO k vs).reach r) : ∃ (x : List Int) (xs : List TV'), vs = tL 8 x true :: xs ∧ (k x xs).reach r := by
  unfold aIntsO at h; split at h
  case h_2 => cases h
  exact ⟨_, _, rfl, h⟩
def rIntsO (k : List Int → List RV' → Tree β) : List RV' → Tree β
  | .v (.leaf ⟨.sl 8, x⟩ true) :: xs => k x xs
  | _ => .fail
theorem rIntsO_r {k : List Int → List RV' → Tree β} {vs : List RV'} {r : β} (h : (rIntsO k vs).reach r) : ∃ (x : List Int) (xs : List RV'), vs = .v (tL 8 x true) :: xs ∧ (k x xs).reach r := by
  unfold rIntsO at h; split at h
  case h_2 => cases h
  exact ⟨_, _, rfl, h⟩
def aCells (k : List Cell → List TV' → Tree β) : List TV' → Tree β
  | .leaf ⟨.sl 9, x⟩ false :: xs => k x xs
  | _ => .fail
theorem aCells_r {k : List Cell → List TV' → Tree β} {vs : List TV'} {r : β} (h : (aCells k vs).reach r) : ∃ (x : List Cell) (xs : List TV'), vs = tL 9 x false :: xs ∧ (k x xs).reach r := by
  unfold aCells at h; split at h
  case h_2 => cases h
  exact ⟨_, _, rfl, h⟩
def rCells (k : List Cell → List RV' → Tree β) : List RV' → Tree β
  | .v (.leaf ⟨.sl 9, x⟩ false) :: xs => k x xs
  | _ => .fail
theorem rCells_r {k : List Cell → List RV' → Tree β} {vs : List RV'} {r : β} (h : (rCells k vs).reach r) : ∃ (x : List Cell) (xs : List RV'), vs = .v (tL 9 x false) :: xs ∧ (k x xs).reach r := by
  unfold rCells at h; split at h
  case h_2 => cases h
  exact ⟨_, _, rfl, h⟩
def aCellsO (k : List Cell → List TV' → Tree β) : List TV' → Tree β
  | .leaf ⟨.sl 9, x⟩ true :: xs => k x xs
  | _ => .fail
theorem aCellsO_r {k : List Cell → List TV' → Tree β} {vs : List TV'} {r : β} (h : (aCellsO k vs).reach r) : ∃ (x : List Cell) (xs : List TV'), vs = tL 9 x true :: xs ∧ (k x xs).reach r := by
  unfold aCellsO at h; split at h
  case h_2 => cases h
  exact ⟨_, _, rfl, h⟩
def rCellsO (k : List Cell → List RV' → Tree β) : List RV' → Tree β
  | .v (.leaf ⟨.sl 9, x⟩ true) :: xs => k x xs
  | _ => .fail
theorem rCellsO_r {k : List Cell → List RV' → Tree β} {vs : List RV'} {r : β} (h : (rCellsO k vs).reach r) : ∃ (x : List Cell) (xs : List RV'), vs = .v (tL 9 x true) :: xs ∧ (k x xs).reach r := by
  unfold rCellsO at h; split at h
  case h_2 => cases h
  exact ⟨_, _, rfl, h⟩
abbrev tCell (x : Cell) : TV' := .agg (Cell.lv x)
def aCell (q : Cell → List TV' → Tree β) : List TV' → Tree β
  | .agg [⟨.str, cs⟩, ⟨.int .i64, cc⟩, ⟨.int .i64, cr⟩] :: xs => q (⟨cs, cc, cr⟩) xs
  | _ => .fail
theorem aCell_r {q : Cell → List TV' → Tree β} {vs : List TV'} {r : β} (h : (aCell q vs).reach r) : ∃ (x : Cell) (xs : List TV'), vs = tCell x :: xs ∧ (q x xs).reach r := by
  unfold aCell at h; split at h
  case h_2 => cases h
  rename_i cs cc cr xs
  exact ⟨⟨cs, cc, cr⟩, xs, rfl, h⟩
def rCell (q : Cell → List RV' → Tree β) : List RV' → Tree β
  | .v (.agg [⟨.str, cs⟩, ⟨.int .i64, cc⟩, ⟨.int .i64, cr⟩]) :: xs => q (⟨cs, cc, cr⟩) xs
  | _ => .fail
theorem rCell_r {q : Cell → List RV' → Tree β} {vs : List RV'} {r : β} (h : (rCell q vs).reach r) : ∃ (x : Cell) (xs : List RV'), vs = .v (tCell x) :: xs ∧ (q x xs).reach r := by
  unfold rCell at h; split at h
  case h_2 => cases h
  rename_i cs cc cr xs
  exact ⟨⟨cs, cc, cr⟩, xs, rfl, h⟩
abbrev tVal (x : Val) : TV' := .agg (Val.lv x)
def aVal (q : Val → List TV' → Tree β) : List TV' → Tree β
  | .agg [⟨.int .i64, vk⟩, ⟨.int .i64, vn⟩, ⟨.str, vs⟩] :: xs => q (⟨vk, vn, vs⟩) xs
  | _ => .fail
theorem aVal_r {q : Val → List TV' → Tree β} {vs : List TV'} {r : β} (h : (aVal q vs).reach r) : ∃ (x : Val) (xs : List TV'), vs = tVal x :: xs ∧ (q x xs).reach r := by
  unfold aVal at h; split at h
  case h_2 => cases h
  rename_i vk vn vs xs
  exact ⟨⟨vk, vn, vs⟩, xs, rfl, h⟩
def rVal (q : Val → List RV' → Tree β) : List RV' → Tree β
  | .v (.agg [⟨.int .i64, vk⟩, ⟨.int .i64, vn⟩, ⟨.str, vs⟩]) :: xs => q (⟨vk, vn, vs⟩) xs
  | _ => .fail
theorem rVal_r {q : Val → List RV' → Tree β} {vs : List RV'} {r : β} (h : (rVal q vs).reach r) : ∃ (x : Val) (xs : List RV'), vs = .v (tVal x) :: xs ∧ (q x xs).reach r := by
  unfold rVal at h; split at h
  case h_2 => cases h
  rename_i vk vn vs xs
  exact ⟨⟨vk, vn, vs⟩, xs, rfl, h⟩
abbrev tTok (x : Tok) : TV' := .agg (Tok.lv x)
def aTok (q : Tok → List TV' → Tree β) : List TV' → Tree β
  | .agg [⟨.int .i64, k⟩, ⟨.int .i64, a⟩, ⟨.str, s⟩] :: xs => q (⟨k, a, s⟩) xs
  | _ => .fail
theorem aTok_r {q : Tok → List TV' → Tree β} {vs : List TV'} {r : β} (h : (aTok q vs).reach r) : ∃ (x : Tok) (xs : List TV'), vs = tTok x :: xs ∧ (q x xs).reach r := by
  unfold aTok at h; split at h
  case h_2 => cases h
  rename_i k a s xs
  exact ⟨⟨k, a, s⟩, xs, rfl, h⟩
def rTok (q : Tok → List RV' → Tree β) : List RV' → Tree β
  | .v (.agg [⟨.int .i64, k⟩, ⟨.int .i64, a⟩, ⟨.str, s⟩]) :: xs => q (⟨k, a, s⟩) xs
  | _ => .fail
theorem rTok_r {q : Tok → List RV' → Tree β} {vs : List RV'} {r : β} (h : (rTok q vs).reach r) : ∃ (x : Tok) (xs : List RV'), vs = .v (tTok x) :: xs ∧ (q x xs).reach r := by
  unfold rTok at h; split at h
  case h_2 => cases h
  rename_i k a s xs
  exact ⟨⟨k, a, s⟩, xs, rfl, h⟩
abbrev tShown (x : Shown) : TV' := .agg (Shown.lv x)
def aShown (q : Shown → List TV' → Tree β) : List TV' → Tree β
  | .agg [⟨.str, cs⟩, ⟨.int .i64, cc⟩, ⟨.int .i64, cr⟩, ⟨.int .i64, vk⟩, ⟨.int .i64, vn⟩, ⟨.str, vs⟩] :: xs => q (⟨⟨cs, cc, cr⟩, ⟨vk, vn, vs⟩⟩) xs
  | _ => .fail
theorem aShown_r {q : Shown → List TV' → Tree β} {vs : List TV'} {r : β} (h : (aShown q vs).reach r) : ∃ (x : Shown) (xs : List TV'), vs = tShown x :: xs ∧ (q x xs).reach r := by
  unfold aShown at h; split at h
  case h_2 => cases h
  rename_i cs cc cr vk vn vs xs
  exact ⟨⟨⟨cs, cc, cr⟩, ⟨vk, vn, vs⟩⟩, xs, rfl, h⟩
def rShown (q : Shown → List RV' → Tree β) : List RV' → Tree β
  | .v (.agg [⟨.str, cs⟩, ⟨.int .i64, cc⟩, ⟨.int .i64, cr⟩, ⟨.int .i64, vk⟩, ⟨.int .i64, vn⟩, ⟨.str, vs⟩]) :: xs => q (⟨⟨cs, cc, cr⟩, ⟨vk, vn, vs⟩⟩) xs
  | _ => .fail
theorem rShown_r {q : Shown → List RV' → Tree β} {vs : List RV'} {r : β} (h : (rShown q vs).reach r) : ∃ (x : Shown) (xs : List RV'), vs = .v (tShown x) :: xs ∧ (q x xs).reach r := by
  unfold rShown at h; split at h
  case h_2 => cases h
  rename_i cs cc cr vk vn vs xs
  exact ⟨⟨⟨cs, cc, cr⟩, ⟨vk, vn, vs⟩⟩, xs, rfl, h⟩
abbrev tRange (x : Range) : TV' := .agg (Range.lv x)
def aRange (q : Range → List TV' → Tree β) : List TV' → Tree β
  | .agg [⟨.str, cs⟩, ⟨.int .i64, cc⟩, ⟨.int .i64, cr⟩, ⟨.str, ds⟩, ⟨.int .i64, dc⟩, ⟨.int .i64, dr⟩] :: xs => q (⟨⟨cs, cc, cr⟩, ⟨ds, dc, dr⟩⟩) xs
  | _ => .fail
theorem aRange_r {q : Range → List TV' → Tree β} {vs : List TV'} {r : β} (h : (aRange q vs).reach r) : ∃ (x : Range) (xs : List TV'), vs = tRange x :: xs ∧ (q x xs).reach r := by
  unfold aRange at h; split at h
  case h_2 => cases h
  rename_i cs cc cr ds dc dr xs
  exact ⟨⟨⟨cs, cc, cr⟩, ⟨ds, dc, dr⟩⟩, xs, rfl, h⟩
def rRange (q : Range → List RV' → Tree β) : List RV' → Tree β
  | .v (.agg [⟨.str, cs⟩, ⟨.int .i64, cc⟩, ⟨.int .i64, cr⟩, ⟨.str, ds⟩, ⟨.int .i64, dc⟩, ⟨.int .i64, dr⟩]) :: xs => q (⟨⟨cs, cc, cr⟩, ⟨ds, dc, dr⟩⟩) xs
  | _ => .fail
theorem rRange_r {q : Range → List RV' → Tree β} {vs : List RV'} {r : β} (h : (rRange q vs).reach r) : ∃ (x : Range) (xs : List RV'), vs = .v (tRange x) :: xs ∧ (q x xs).reach r := by
  unfold rRange at h; split at h
  case h_2 => cases h
  rename_i cs cc cr ds dc dr xs
  exact ⟨⟨⟨cs, cc, cr⟩, ⟨ds, dc, dr⟩⟩, xs, rfl, h⟩
abbrev tNode (x : Node) : TV' := .agg (Node.lv x)
def aNode (q : Node → List TV' → Tree β) : List TV' → Tree β
  | .agg [⟨.int .i64, k⟩, ⟨.str, o⟩, ⟨.str, m⟩, ⟨.int .i64, vk⟩, ⟨.int .i64, vn⟩, ⟨.str, vs⟩, ⟨.str, cs⟩, ⟨.int .i64, cc⟩, ⟨.int .i64, cr⟩, ⟨.str, ds⟩, ⟨.int .i64, dc⟩, ⟨.int .i64, dr⟩, ⟨.sl 7, ks⟩] :: xs => q (.mk k o m ⟨vk, vn, vs⟩ ⟨cs, cc, cr⟩ ⟨ds, dc, dr⟩ ks) xs
  | _ => .fail
theorem aNode_r {q : Node → List TV' → Tree β} {vs : List TV'} {r : β} (h : (aNode q vs).reach r) : ∃ (x : Node) (xs : List TV'), vs = tNode x :: xs ∧ (q x xs).reach r := by
  unfold aNode at h; split at h
  case h_2 => cases h
  rename_i k o m vk vn vs cs cc cr ds dc dr ks xs
  exact ⟨.mk k o m ⟨vk, vn, vs⟩ ⟨cs, cc, cr⟩ ⟨ds, dc, dr⟩ ks, xs, rfl, h⟩
def rNode (q : Node → List RV' → Tree β) : List RV' → Tree β
  | .v (.agg [⟨.int .i64, k⟩, ⟨.str, o⟩, ⟨.str, m⟩, ⟨.int .i64, vk⟩, ⟨.int .i64, vn⟩, ⟨.str, vs⟩, ⟨.str, cs⟩, ⟨.int .i64, cc⟩, ⟨.int .i64, cr⟩, ⟨.str, ds⟩, ⟨.int .i64, dc⟩, ⟨.int .i64, dr⟩, ⟨.sl 7, ks⟩]) :: xs => q (.mk k o m ⟨vk, vn, vs⟩ ⟨cs, cc, cr⟩ ⟨ds, dc, dr⟩ ks) xs
  | _ => .fail
theorem rNode_r {q : Node → List RV' → Tree β} {vs : List RV'} {r : β} (h : (rNode q vs).reach r) : ∃ (x : Node) (xs : List RV'), vs = .v (tNode x) :: xs ∧ (q x xs).reach r := by
  unfold rNode at h; split at h
  case h_2 => cases h
  rename_i k o m vk vn vs cs cc cr ds dc dr ks xs
  exact ⟨.mk k o m ⟨vk, vn, vs⟩ ⟨cs, cc, cr⟩ ⟨ds, dc, dr⟩ ks, xs, rfl, h⟩
abbrev tEdit (x : Edit) : TV' := .agg (Edit.lv x)
def aEdit (q : Edit → List TV' → Tree β) : List TV' → Tree β
  | .agg [⟨.int .i64, k⟩, ⟨.str, cs⟩, ⟨.int .i64, cc⟩, ⟨.int .i64, cr⟩, ⟨.str, m⟩, ⟨.str, t⟩, ⟨.str, ds⟩, ⟨.int .i64, dc⟩, ⟨.int .i64, dr⟩, ⟨.str, es⟩, ⟨.int .i64, ec⟩, ⟨.int .i64, er⟩] :: xs => q (⟨k, ⟨cs, cc, cr⟩, m, t, ⟨⟨ds, dc, dr⟩, ⟨es, ec, er⟩⟩⟩) xs
  | _ => .fail
theorem aEdit_r {q : Edit → List TV' → Tree β} {vs : List TV'} {r : β} (h : (aEdit q vs).reach r) : ∃ (x : Edit) (xs : List TV'), vs = tEdit x :: xs ∧ (q x xs).reach r := by
  unfold aEdit at h; split at h
  case h_2 => cases h
  rename_i k cs cc cr m t ds dc dr es ec er xs
  exact ⟨⟨k, ⟨cs, cc, cr⟩, m, t, ⟨⟨ds, dc, dr⟩, ⟨es, ec, er⟩⟩⟩, xs, rfl, h⟩
def rEdit (q : Edit → List RV' → Tree β) : List RV' → Tree β
  | .v (.agg [⟨.int .i64, k⟩, ⟨.str, cs⟩, ⟨.int .i64, cc⟩, ⟨.int .i64, cr⟩, ⟨.str, m⟩, ⟨.str, t⟩, ⟨.str, ds⟩, ⟨.int .i64, dc⟩, ⟨.int .i64, dr⟩, ⟨.str, es⟩, ⟨.int .i64, ec⟩, ⟨.int .i64, er⟩]) :: xs => q (⟨k, ⟨cs, cc, cr⟩, m, t, ⟨⟨ds, dc, dr⟩, ⟨es, ec, er⟩⟩⟩) xs
  | _ => .fail
theorem rEdit_r {q : Edit → List RV' → Tree β} {vs : List RV'} {r : β} (h : (rEdit q vs).reach r) : ∃ (x : Edit) (xs : List RV'), vs = .v (tEdit x) :: xs ∧ (q x xs).reach r := by
  unfold rEdit at h; split at h
  case h_2 => cases h
  rename_i k cs cc cr m t ds dc dr es ec er xs
  exact ⟨⟨k, ⟨cs, cc, cr⟩, m, t, ⟨⟨ds, dc, dr⟩, ⟨es, ec, er⟩⟩⟩, xs, rfl, h⟩
abbrev tReply (x : Reply) : TV' := .agg (Reply.lv x)
def aReply (q : Reply → List TV' → Tree β) : List TV' → Tree β
  | .agg [⟨.int .i64, k⟩, ⟨.int .i64, v⟩, ⟨.int .i64, e⟩, ⟨.sl 2, l⟩] :: xs => q (⟨k, v, e, l⟩) xs
  | _ => .fail
theorem aReply_r {q : Reply → List TV' → Tree β} {vs : List TV'} {r : β} (h : (aReply q vs).reach r) : ∃ (x : Reply) (xs : List TV'), vs = tReply x :: xs ∧ (q x xs).reach r := by
  unfold aReply at h; split at h
  case h_2 => cases h
  rename_i k v e l xs
  exact ⟨⟨k, v, e, l⟩, xs, rfl, h⟩
def rReply (q : Reply → List RV' → Tree β) : List RV' → Tree β
  | .v (.agg [⟨.int .i64, k⟩, ⟨.int .i64, v⟩, ⟨.int .i64, e⟩, ⟨.sl 2, l⟩]) :: xs => q (⟨k, v, e, l⟩) xs
  | _ => .fail
theorem rReply_r {q : Reply → List RV' → Tree β} {vs : List RV'} {r : β} (h : (rReply q vs).reach r) : ∃ (x : Reply) (xs : List RV'), vs = .v (tReply x) :: xs ∧ (q x xs).reach r := by
  unfold rReply at h; split at h
  case h_2 => cases h
  rename_i k v e l xs
  exact ⟨⟨k, v, e, l⟩, xs, rfl, h⟩
end Go.Rf
end
section
set_option linter.unusedSimpArgs false
set_option linter.unusedVariables false
/-! From what a statement hands in to what a function is told of, and back. -/
namespace Go.Rf
open Go.RowKit Go.ChangeShapes Go.WideShapes
theorem lcons {A : Nat → Type} {ls : List (Leaf A)} {t : LT} {ts : List LT} (h : ls.map (·.t) = t :: ts) : ∃ (x : t.den A) (ls' : List (Leaf A)), ls = ⟨t, x⟩ :: ls' ∧ ls'.map (·.t) = ts := by
  cases ls with
  | nil => simp at h
  | cons l ls =>
    obtain ⟨t', x⟩ := l
    simp only [List.map_cons, List.cons.injEq] at h
    obtain ⟨rfl, h⟩ := h
    exact ⟨x, ls, rfl, h⟩
theorem lnil {A : Nat → Type} {ls : List (Leaf A)} (h : ls.map (·.t) = []) : ls = [] := by simpa using h
theorem u8_leaf {elem : Nat → TypeId} {x : Int} (h : LWf (envA elem) ⟨.int .u8, x⟩) : ∃ y : UInt8, ((UInt8.toNat y : Nat) : Int) = x := by
  cases h with
  | int _ _ h =>
    simp only [Lit.wf, Bool.and_eq_true, decide_eq_true_eq] at h
    have h1 : IntKind.u8.min = 0 := rfl
    have h2 : IntKind.u8.max = 255 := rfl
    exact ⟨UInt8.ofNat x.toNat, u8_mk (by omega)⟩
theorem mkA_ok {elem : Nat → TypeId} : ∀ i (ls : List Lf), ls.map (·.t) = shapeA i → (∀ l ∈ ls, LWf (envA elem) l) → ∃ x, leavesA i x = ls := by
  intro i ls h hw
  have u8c : ∀ ls : List Lf, ls.map (·.t) = [.int .u8] → (∀ l ∈ ls, LWf (envA elem) l) → ∃ x : UInt8, [(⟨.int .u8, ((UInt8.toNat x : Nat) : Int)⟩ : Lf)] = ls := by
    intro ls h hw
    obtain ⟨x, ls, rfl, g1⟩ := lcons h
    obtain rfl := lnil g1
    obtain ⟨y, hy⟩ := u8_leaf (hw _ List.mem_cons_self)
    exact ⟨y, by rw [hy]⟩
  match i, h with
  | 0, h => exact u8c ls h hw
  | n + 11, h => exact u8c ls h hw
  | 1, h =>
    obtain ⟨a, ls, rfl, g2⟩ := lcons h; obtain ⟨b, ls, rfl, g3⟩ := lcons g2; obtain ⟨c, ls, rfl, g4⟩ := lcons g3; obtain rfl := lnil g4
    exact ⟨(⟨a, b, c⟩ : Tok), rfl⟩
  | 2, h =>
    obtain ⟨a, ls, rfl, g5⟩ := lcons h; obtain ⟨b, ls, rfl, g6⟩ := lcons g5; obtain ⟨c, ls, rfl, g7⟩ := lcons g6
    obtain ⟨d, ls, rfl, g8⟩ := lcons g7; obtain ⟨e, ls, rfl, g9⟩ := lcons g8; obtain ⟨f, ls, rfl, g10⟩ := lcons g9; obtain rfl := lnil g10
    exact ⟨(⟨⟨a, b, c⟩, ⟨d, e, f⟩⟩ : Shown), rfl⟩
  | 3, h =>
    obtain ⟨a, ls, rfl, g11⟩ := lcons h; obtain ⟨b, ls, rfl, g12⟩ := lcons g11; obtain ⟨c, ls, rfl, g13⟩ := lcons g12; obtain rfl := lnil g13
    exact ⟨(⟨a, b, c⟩ : Val), rfl⟩
  | 4, h => obtain ⟨a, ls, rfl, g14⟩ := lcons h; obtain rfl := lnil g14; exact ⟨a, rfl⟩
  | 5, h => obtain ⟨a, ls, rfl, g15⟩ := lcons h; obtain rfl := lnil g15; exact ⟨a, rfl⟩
  | 6, h => obtain ⟨a, ls, rfl, g16⟩ := lcons h; obtain rfl := lnil g16; exact ⟨a, rfl⟩
  | 8, h => obtain ⟨a, ls, rfl, g17⟩ := lcons h; obtain rfl := lnil g17; exact ⟨a, rfl⟩
  | 9, h =>
    obtain ⟨a, ls, rfl, g18⟩ := lcons h; obtain ⟨b, ls, rfl, g19⟩ := lcons g18; obtain ⟨c, ls, rfl, g20⟩ := lcons g19; obtain rfl := lnil g20
    exact ⟨(⟨a, b, c⟩ : Cell), rfl⟩
  | 7, h =>
    obtain ⟨k, ls, rfl, g21⟩ := lcons h; obtain ⟨o, ls, rfl, g22⟩ := lcons g21; obtain ⟨m, ls, rfl, g23⟩ := lcons g22
    obtain ⟨d, ls, rfl, g24⟩ := lcons g23; obtain ⟨e, ls, rfl, g25⟩ := lcons g24; obtain ⟨f, ls, rfl, g26⟩ := lcons g25
    obtain ⟨a, ls, rfl, g27⟩ := lcons g26; obtain ⟨b, ls, rfl, g28⟩ := lcons g27; obtain ⟨c, ls, rfl, g29⟩ := lcons g28
    obtain ⟨a1, ls, rfl, g30⟩ := lcons g29; obtain ⟨b1, ls, rfl, g31⟩ := lcons g30; obtain ⟨c1, ls, rfl, g32⟩ := lcons g31
    obtain ⟨ks, ls, rfl, g33⟩ := lcons g32; obtain rfl := lnil g33
    exact ⟨Node.mk k o m ⟨d, e, f⟩ ⟨a, b, c⟩ ⟨a1, b1, c1⟩ ks, rfl⟩
  | 10, h =>
    obtain ⟨a0, ls, rfl, g34⟩ := lcons h; obtain ⟨b0, ls, rfl, g35⟩ := lcons g34; obtain ⟨c0, ls, rfl, g36⟩ := lcons g35; obtain ⟨fm, ls, rfl, g37⟩ := lcons g36
    obtain ⟨k, ls, rfl, g38⟩ := lcons g37; obtain ⟨o, ls, rfl, g39⟩ := lcons g38; obtain ⟨m, ls, rfl, g40⟩ := lcons g39
    obtain ⟨d, ls, rfl, g41⟩ := lcons g40; obtain ⟨e, ls, rfl, g42⟩ := lcons g41; obtain ⟨f, ls, rfl, g43⟩ := lcons g42
    obtain ⟨a, ls, rfl, g44⟩ := lcons g43; obtain ⟨b, ls, rfl, g45⟩ := lcons g44; obtain ⟨c, ls, rfl, g46⟩ := lcons g45
    obtain ⟨a1, ls, rfl, g47⟩ := lcons g46; obtain ⟨b1, ls, rfl, g48⟩ := lcons g47; obtain ⟨c1, ls, rfl, g49⟩ := lcons g48
    obtain ⟨ks, ls, rfl, g50⟩ := lcons g49
    obtain ⟨d1, ls, rfl, g51⟩ := lcons g50; obtain ⟨e1, ls, rfl, g52⟩ := lcons g51; obtain ⟨f1, ls, rfl, g53⟩ := lcons g52; obtain rfl := lnil g53
    exact ⟨(⟨⟨a0, b0, c0⟩, fm, Node.mk k o m ⟨d, e, f⟩ ⟨a, b, c⟩ ⟨a1, b1, c1⟩ ks, ⟨d1, e1, f1⟩⟩ : Entry), rfl⟩
section
variable {E : Env} {P : Program} {H : Type} {enc : TypeId × Value → H} {w : World} {spare : Nat → Bool} {held : Bool} {base : Nat}
/-- An argument of that form, within what may come in. -/
def ArgOf (E : Env) : Ty → TV E.A → Prop
  | .leaf l, x => ∃ y, x = .leaf ⟨l, y⟩ false ∧ LWf E ⟨l, y⟩
  | .agg ls _, x => ∃ lv, x = .agg lv ∧ lv.map (·.t) = ls ∧ ∀ l ∈ lv, LWf E l
theorem LWf.names {l : Leaf E.A} (h : LWf E l) : l.names = none := by cases h <;> rfl
theorem ArgOf.names {ty : Ty} {x : TV E.A} (h : ArgOf E ty x) : x.names = [] ∧ (RV.v x).free := by
  cases ty with
  | leaf l =>
    obtain ⟨y, rfl, h⟩ := h
    exact ⟨by simp only [TV.names, h.names]; rfl, rfl⟩
  | agg ls fs =>
    obtain ⟨lv, rfl, _, h⟩ := h
    refine ⟨?_, trivial⟩
    simp only [TV.names, List.filterMap_eq_nil_iff]
    exact fun l hl => (h l hl).names
theorem arg_ok {rt : TT} (htt : TTOk P E rt) (hrb : readB E rt = true) (hmk : ∀ i (ls : List (Leaf E.A)), ls.map (·.t) = E.shape i → (∀ l ∈ ls, LWf E l) → ∃ x, E.leaves i x = ls)
    {t : TypeId} {ty : Ty} {v : Value} {d : DataW H} {ps : List MemPlace} (hty : ttGet rt t = some ty) (hval : Value.okWide P w .any base t v) (h : DataW.Trod enc P w 0 spare held t v d ps) (hw : ∀ n ∈ d.weights P t, n ≤ reachBytes) (loc : Nat → Nat) :
    ∃ x : TV E.A, ArgOf E ty x ∧ TVR loc noF w x v := by
  obtain ⟨fuel, hf⟩ := h
  obtain ⟨ls, h1, h2, h3⟩ := read_ok htt hrb hmk fuel t ty _ d ps hty hf hw
  have hT := htt _ _ hty
  have hB := List.all_eq_true.1 hrb _ (ttGet_mem hty)
  cases ty with
  | leaf l =>
    obtain ⟨y, ls, rfl, g1⟩ := lcons (A := E.A) h1
    obtain rfl := lnil g1
    obtain ⟨td, info, z, hu, hd, _⟩ := hT
    have hc : v.cells.toList = [v] := by
      cases l with
      | int k => obtain rfl : td = .int k := hd; obtain ⟨n, rfl⟩ := okWide_int hu hval; rfl
      | bool => obtain rfl : td = .bool := hd; obtain ⟨n, rfl⟩ := okWide_bool hu hval; rfl
      | str => obtain rfl : td = .string := hd; obtain ⟨n, rfl⟩ := okWide_string hu hval; rfl
      | sl i => obtain ⟨rfl, _⟩ := hd; obtain ⟨a, b, c, rfl⟩ := okWide_slice hu hval; rfl
      | nil => simp at hB
      | err => simp at hB
      | fn => simp at hB
      | ptr => simp at hB
      | self => simp at hB
    rw [hc] at h2
    exact ⟨.leaf ⟨l, y⟩ false, ⟨y, rfl, h3 _ List.mem_cons_self⟩, LV_of h2.1⟩
  | agg lts fs =>
    obtain ⟨flds, info, zs, hu, _⟩ := hT
    simp only [Value.okWide, hu] at hval
    obtain ⟨cs, rfl, _⟩ := hval
    exact ⟨.agg ls, ⟨ls, rfl, h1, h3⟩, cs, rfl, h2.mono fun _ _ h => LV_of h⟩
theorem args_ok {rt : TT} (htt : TTOk P E rt) (hrb : readB E rt = true) (hmk : ∀ i (ls : List (Leaf E.A)), ls.map (·.t) = E.shape i → (∀ l ∈ ls, LWf E l) → ∃ x, E.leaves i x = ls) (loc : Nat → Nat) :
    ∀ (ts : List TypeId) (tys : List Ty) (vs : List Value) (ds : List (DataW H)) (ps : List MemPlace), All2 (fun t ty => ttGet rt t = some ty) ts tys → DataW.TrodAll enc P w 0 spare held ts vs ds ps →
      (∀ (j : Nat) t v, ts[j]? = some t → vs[j]? = some v → Value.okWide P w .any base t v) → (∀ n ∈ DataW.weightsEach P ts ds, n ≤ reachBytes) →
      ∃ xs : List (TV E.A), All2 (ArgOf E) tys xs ∧ All2 (TVR loc noF w) xs vs
  | [], [], [], [], _, _, _, _, _ => ⟨[], trivial, trivial⟩
  | t :: ts, ty :: tys, v :: vs, d :: ds, ps, h1, h2, h3, h4 => by
    obtain ⟨p, q, g1, g2, rfl⟩ := h2
    obtain ⟨x, k1, k2⟩ := arg_ok htt hrb hmk h1.1 (h3 0 t v rfl rfl) g1 (fun n hn => h4 n (by simp only [DataW.weightsEach, List.mem_append]; exact .inl hn)) loc
    obtain ⟨xs, l1, l2⟩ := args_ok htt hrb hmk loc ts tys vs ds q h1.2 g2 (fun j t v a b => h3 (j + 1) t v (by simpa using a) (by simpa using b)) (fun n hn => h4 n (by simp only [DataW.weightsEach, List.mem_append]; exact .inr hn))
    exact ⟨x :: xs, ⟨k1, l1⟩, ⟨k2, l2⟩⟩
  | [], _ :: _, _, _, _, h, _, _, _ => h.elim
  | _ :: _, [], _, _, _, h, _, _, _ => h.elim
  | [], [], _ :: _, _, _, _, h, _, _ => h.elim
  | [], [], [], _ :: _, _, _, h, _, _ => h.elim
  | _ :: _, _ :: _, [], _, _, _, h, _, _ => h.elim
  | _ :: _, _ :: _, _ :: _, [], _, _, h, _, _ => h.elim
theorem trodAll_below (hl : laidOutB P = true) {W W' : World} (hb : Below W.heap.size W W') : ∀ (ts : List TypeId) (vs : List Value) (ds : List (DataW H)) (ps : List MemPlace), (∀ t ∈ ts, P.readableRec t = true ∧ t < P.types.size) →
    DataW.TrodAll enc P W 0 (fun _ => true) true ts vs ds ps → DataW.TrodAll enc P W' 0 (fun b => decide (b < W.heap.size)) true ts vs ds ps
  | [], [], [], _, _, h => h
  | t :: ts, v :: vs, d :: ds, ps, ht, h => by
    obtain ⟨p, q, g1, g2, rfl⟩ := h
    have hlt : ∀ x ∈ p, x.block < W.heap.size := by obtain ⟨m, hm⟩ := g1; exact DataW.trod_lt m _ _ _ hm
    exact ⟨p, q, Below.trod hl (ht t List.mem_cons_self).1 (ht t List.mem_cons_self).2 g1 hb hlt, trodAll_below hl hb ts vs ds q (fun t h => ht t (List.mem_cons_of_mem _ h)) g2, rfl⟩
  | [], _ :: _, _, _, _, h => h.elim
  | [], [], _ :: _, _, _, h => h.elim
  | _ :: _, [], _, _, _, h => h.elim
  | _ :: _, _ :: _, [], _, _, h => h.elim
/-- Where a function begins that was handed data alone. -/
theorem rel0 {args : Array Value} {xs : List (TV E.A)} {tys : List Ty} {W : World} {loc : Nat → Nat} (hle : args.size ≤ 1000000) (ha : All2 (ArgOf E) tys xs) (hx : All2 (TVR loc noF W) xs args.toList) :
    xs.length = args.size ∧ Rel args.size noF noF ⟨W, args.size, loc⟩ loc noF (begin_ xs (anys args.size)) ⟨args, []⟩ W := by
  have hn : xs.length = args.size := by have := hx.len; simpa using this
  have hsl : ∀ t, t < args.size → ∃ x, xs[t]? = some x ∧ get (begin_ xs (anys args.size)) t = .v x ∧ x.names = [] ∧ (RV.v x).free := by
    intro t ht
    have hl : t < xs.length := by omega
    obtain ⟨ty, _, h⟩ := ha.getR (j := t) (List.getElem?_eq_getElem hl)
    exact ⟨_, List.getElem?_eq_getElem hl, get_begin_slot (List.getElem?_eq_getElem hl), h.names.1, h.names.2⟩
  have hbk : ∀ b, get (begin_ xs (anys args.size)) (bk b) = .any := by
    intro b
    rw [get_begin_bk (by omega), anys_eq, List.getD_eq_getElem?_getD, List.getElem?_replicate]
    split <;> rfl
  have hno : ∀ r k i ys u, ¬ Hold loc args.size (begin_ xs (anys args.size)) ⟨args, []⟩ W r k i ys u := by
    intro r k i ys u hh
    cases hh with
    | slot t i xs' ht h =>
      obtain ⟨x, _, h2, _, h4⟩ := hsl _ ht
      rw [h] at h2
      injection h2 with h2
      subst h2
      cases h4
    | tup t k i xs' ts us u ht h =>
      obtain ⟨x, _, h2, _, _⟩ := hsl _ ht
      rw [h] at h2; cases h2
    | blk b k i xs' ty cells u h => rw [hbk] at h; cases h
  refine ⟨hn, ⟨rfl, hle, rfl, fun t h1 h2 => get_begin_out (by omega) h2, fun t ht => ?_, fun b ty cells h => (by rw [hbk] at h; cases h), fun b b' ty cells ty' cells' h => (by rw [hbk] at h; cases h), fun r hr b hb => ?_,
    fun r k i xs u hh => (hno _ _ _ _ _ hh).elim, fun r k i xs u r' k' i' xs' u' g hh => (hno _ _ _ _ _ hh).elim, fun r k i xs u g b ty cells hh => (hno _ _ _ _ _ hh).elim, Keep.refl _ _, fun g o h => h.elim, fun g o _ h => h, fun g o _ h _ => h, fun b _ => rfl⟩⟩
  · obtain ⟨x, h1, h2, _⟩ := hsl t ht
    rw [h2]
    obtain ⟨v, hv, hr⟩ := hx.get h1
    have : args.getD t undef = v := by
      rw [Array.getElem?_toList] at hv
      rw [Array.getD_eq_getD_getElem?, hv]; rfl
    show TVR loc noF W x _
    rw [this]; exact hr
  · exfalso
    rcases hr with hr | hr
    · obtain ⟨x, _, h2, h3, _⟩ := hsl r hr
      rw [h2] at hb
      simp only [RV.names, h3] at hb
      cases hb
    · have : r = bk (r - 1000000) := by unfold bk; omega
      rw [this, hbk] at hb
      cases hb
/-- A call of a function that answers true to data. -/
theorem told {f : FuncId} {fn : Func} {c : Code} (hf : P.funcs[f]? = some fn) (hname : (fn.name == "runtime.NumGoroutine") = false) (hb : fn.body = some c) {n : Nat} {F : List (TV E.A) → Tree (List (TV E.A))} (ok : SpecOk P f (pureSpec n F))
    {args : Array Value} {xs : List (TV E.A)} {tys : List Ty} {W : World} (hle : args.size ≤ 1000000) (hn : args.size = n) (ha : All2 (ArgOf E) tys xs) (hx : All2 (TVR (fun _ => 0) noF W) xs args.toList) (hr : (F xs).reach [.leaf ⟨.bool, true⟩ false]) :
    Calls P f args W fun e W' => e = .returned (.bool true) ∧ Below W.heap.size W W' := by
  obtain ⟨h1, h2⟩ := rel0 hle ha hx
  have h3 := ok xs (anys args.size) ([.leaf ⟨.bool, true⟩ false], anys args.size) args W _ _ _ h1 (by rw [anys_eq]; simp) h2 (by
    unfold pureSpec
    dsimp only
    have : isAnys n (anys args.size : List (RV E.A)) = true := by
      rw [hn]
      clear hr ok h2 hn
      induction n with
      | zero => rfl
      | succ n ih => exact ih
    rw [this]
    exact Tree.reach_bind.2 ⟨_, hr, rfl⟩)
  refine (calls_of_lands hf hname hb h3).mono ?_
  rintro e W' ⟨v, rfl, loc, F', tmps, ho, hrel⟩
  rcases ho with ⟨r, h5, h6⟩ | ⟨h5, _⟩
  · subst h6
    have h7 := hrel.slot 0 (by simp)
    rw [get_begin_slot (x := .leaf ⟨.bool, true⟩ false) rfl] at h7
    have h8 : v = .bool true := (tvr_bool (E := E)).1 (show TVR loc F' W' (.leaf ⟨.bool, true⟩ false) v from h7)
    exact ⟨by rw [h8], hrel.keep.to_below⟩
  · simp at h5
end
end Go.Rf
end
section
set_option linter.unusedSimpArgs false
set_option linter.unusedVariables false
namespace Go.Rf
open Go.RowKit Go.ChangeShapes Go.WideShapes
variable {E : Env} {H : Type} {enc : TypeId × Value → H}
theorem trodAll_len {P : Program} {w : World} {spare : Nat → Bool} {held : Bool} : ∀ {ts : List TypeId} {vs : List Value} {ds : List (DataW H)} {ps : List MemPlace}, DataW.TrodAll enc P w 0 spare held ts vs ds ps → vs.length = ts.length ∧ ds.length = ts.length
  | [], [], [], _, _ => ⟨rfl, rfl⟩
  | _ :: ts, _ :: vs, _ :: ds, _, ⟨p, q, _, h, _⟩ => by obtain ⟨h1, h2⟩ := trodAll_len h; exact ⟨by simp [h1], by simp [h2]⟩
  | [], _ :: _, _, _, h => h.elim
  | [], [], _ :: _, _, h => h.elim
  | _ :: _, [], _, _, h => h.elim
  | _ :: _, _ :: _, [], _, h => h.elim
/-- What a law's function is told of, as a row tells it. -/
theorem handed {C : Checked} {os : Os} {f : FuncId} {fn : Func} {s : ChangeSpec} {conds : List PathCond} (own : ownKnob C.prog.godebug = none) (started : os.Started) (noInit : C.prog.inits.idxOf? f = none) (hfn : C.prog.funcs[f]? = some fn)
    (witness : ∃ (w : World) (tape : Tape) (i : Input), w.os = os ∧ (w.forCall tape i).Shaped C.prog ∧ i.vars = [] ∧ Input.okWide C.prog (w.forCall tape i) .any w.heap.size f i ∧
      s.pre6 enc C.prog fn conds false (w.forCall tape i).memory i.args ∧ ({} : Assume).holds C.prog (lone (Frame.enter C.prog f i.args .normal) [] (w.forCall tape i)))
    {rt : TT} (htt : TTOk C.prog E rt) (hrb : readB E rt = true) (hmk : ∀ i (ls : List (Leaf E.A)), ls.map (·.t) = E.shape i → (∀ l ∈ ls, LWf E l) → ∃ x, E.leaves i x = ls) (hl : laidOutB C.prog = true)
    (tys : List Ty) (hts : All2 (fun t ty => ttGet rt t = some ty) fn.params.toList tys) (hread : ∀ t ∈ fn.params.toList, C.prog.readableRec t = true ∧ t < C.prog.types.size)
    {tb : TypeId} (hres : fn.resultTypes = #[tb]) (hb : C.prog.underlying tb = some .bool) (hname : (fn.name == "runtime.NumGoroutine") = false) {c : Code} (hbody : fn.body = some c)
    {n : Nat} {F : List (TV E.A) → Tree (List (TV E.A))} (ok : SpecOk C.prog f (pureSpec n F)) (hn : fn.params.size = n) (hle : n ≤ 1000000) (law : ∀ xs, All2 (ArgOf E) tys xs → (F xs).reach [.leaf ⟨.bool, true⟩ false])
    (hs : ∀ (ds : List (DataW H)), ds.length = n → s.fn H ds = { results := [.lit (.bool true)], args := ds }) (hv : s.vars = []) :
    ReturnsInHanded {} C os f .any (s.pre6 enc C.prog fn conds false) (s.post enc C.prog fn false true false false) := by
  refine returnsInHanded_of_change_sized own started noInit hfn witness ?_
  intro W base args ds gs before hval hW hcnd hsz _
  have hW' := hW
  obtain ⟨p, q, hA, hV, rfl, hfz, hnd⟩ := hW
  rw [hv] at hV
  obtain ⟨rfl, rfl⟩ := trodVars_none hV
  obtain ⟨l1, l2⟩ := trodAll_len hA
  have hn1 : args.size = n := by simpa [hn] using l1
  have hn2 : ds.length = n := by simpa [hn] using l2
  have hvt : s.plain.varTypes C.prog = [] := by
    have : s.plain.vars = [] := hv
    simp [DataSpec.varTypes, this]
  obtain ⟨xs, h1, h2⟩ := args_ok (rt := rt) htt hrb hmk (fun _ => 0) _ tys _ ds p hts hA (fun j t v a b => hval j t v (by simpa using a) (by simpa using b)) (fun k hk => by
    rw [hvt, List.append_nil, List.append_nil] at hsz
    simpa using List.all_eq_true.1 hsz k hk)
  refine (told hfn hname hbody ok (by omega) hn1 h1 h2 (law xs h1)).mono ?_
  rintro e W' ⟨rfl, bel⟩
  have hsf := hs ds hn2
  refine ⟨_, rfl, ds, [], _, [], p, [], hW', ?_, ?_, ?_, bel.frame _, fun h => by cases h⟩
  · rw [List.append_nil, hsf, hres]
    exact trodAll_mk1 (shut_bool hb _)
  · rw [List.append_nil, hsf]
    exact trodAll_below hl bel _ _ _ _ hread hA
  · rw [List.append_nil, hsf, hv]
    exact rfl
end Go.Rf
end
section
set_option linter.unusedVariables false
set_option linter.unusedSimpArgs false
/-! Functions of a variable that holds bytes and a flag: writers (the bytes are their own) and readers. -/
namespace Go.Rf
variable {β : Type}
/-- What is left, or what is written; is it bad? -/
abbrev BF := List UInt8 × Bool
abbrev stV (t : Nat) (o : Bool) (w : BF) : RV' := .blk t [(⟨.sl 0, w.1⟩, o), (⟨.bool, w.2⟩, false)]
def rStO (t : Nat) (k : BF → List RV' → Tree β) : List RV' → Tree β
  | .blk u [(⟨.sl 0, ys⟩, true), (⟨.bool, b⟩, false)] :: vs => bif Nat.beq u t then k (ys, b) vs else .fail
  | _ => .fail
def rStN (t : Nat) (k : BF → List RV' → Tree β) : List RV' → Tree β
  | .blk u [(⟨.sl 0, ys⟩, false), (⟨.bool, b⟩, false)] :: vs => bif Nat.beq u t then k (ys, b) vs else .fail
  | _ => .fail
def rSt (t : Nat) (o : Bool) : (BF → List RV' → Tree β) → List RV' → Tree β := match o with | true => rStO t | false => rStN t
theorem rSt_r {t : Nat} {o : Bool} {k : BF → List RV' → Tree β} {vs : List RV'} {r : β} (h : (rSt t o k vs).reach r) : ∃ (w : BF) (xs : List RV'), vs = stV t o w :: xs ∧ (k w xs).reach r := by
  cases o with
  | true =>
    unfold rSt rStO at h
    dsimp only at h
    split at h
    case h_2 => cases h
    rename_i u ys b vs
    cases hb : Nat.beq u t with
    | false => rw [hb] at h; cases h
    | true => rw [hb] at h; obtain rfl := Nat.eq_of_beq_eq_true hb; exact ⟨_, _, rfl, h⟩
  | false =>
    unfold rSt rStN at h
    dsimp only at h
    split at h
    case h_2 => cases h
    rename_i u ys b vs
    cases hb : Nat.beq u t with
    | false => rw [hb] at h; cases h
    | true => rw [hb] at h; obtain rfl := Nat.eq_of_beq_eq_true hb; exact ⟨_, _, rfl, h⟩
/-- A variable that holds a value. -/
abbrev valV (t : Nat) (v : Val) : RV' := .blk t [(⟨.int .i64, v.kind⟩, false), (⟨.int .i64, v.n⟩, false), (⟨.str, v.s⟩, false)]
def rValB (t : Nat) (k : Val → List RV' → Tree β) : List RV' → Tree β
  | .blk u [(⟨.int .i64, x⟩, false), (⟨.int .i64, y⟩, false), (⟨.str, z⟩, false)] :: vs => bif Nat.beq u t then k ⟨x, y, z⟩ vs else .fail
  | _ => .fail
theorem rValB_r {t : Nat} {k : Val → List RV' → Tree β} {vs : List RV'} {r : β} (h : (rValB t k vs).reach r) : ∃ (v : Val) (xs : List RV'), vs = valV t v :: xs ∧ (k v xs).reach r := by
  unfold rValB at h
  split at h
  case h_2 => cases h
  rename_i u x y z vs
  cases hb : Nat.beq u t with
  | false => rw [hb] at h; cases h
  | true => rw [hb] at h; obtain rfl := Nat.eq_of_beq_eq_true hb; exact ⟨_, _, rfl, h⟩
/-- A variable that holds a reply; are the cells its own? -/
abbrev replyV (t : Nat) (o : Bool) (r : Reply) : RV' := .blk t [(⟨.int .i64, r.kind⟩, false), (⟨.int .i64, r.version⟩, false), (⟨.int .i64, r.err⟩, false), (⟨.sl 2, r.cells⟩, o)]
def rReplyN (t : Nat) (k : Reply → List RV' → Tree β) : List RV' → Tree β
  | .blk u [(⟨.int .i64, x⟩, false), (⟨.int .i64, y⟩, false), (⟨.int .i64, z⟩, false), (⟨.sl 2, l⟩, false)] :: vs => bif Nat.beq u t then k ⟨x, y, z, l⟩ vs else .fail
  | _ => .fail
def rReplyO (t : Nat) (k : Reply → List RV' → Tree β) : List RV' → Tree β
  | .blk u [(⟨.int .i64, x⟩, false), (⟨.int .i64, y⟩, false), (⟨.int .i64, z⟩, false), (⟨.sl 2, l⟩, true)] :: vs => bif Nat.beq u t then k ⟨x, y, z, l⟩ vs else .fail
  | _ => .fail
theorem rReplyN_r {t : Nat} {k : Reply → List RV' → Tree β} {vs : List RV'} {r : β} (h : (rReplyN t k vs).reach r) : ∃ (x : Reply) (xs : List RV'), vs = replyV t false x :: xs ∧ (k x xs).reach r := by
  unfold rReplyN at h
  split at h
  case h_2 => cases h
  rename_i u x y z l vs
  cases hb : Nat.beq u t with
  | false => rw [hb] at h; cases h
  | true => rw [hb] at h; obtain rfl := Nat.eq_of_beq_eq_true hb; exact ⟨_, _, rfl, h⟩
theorem rReplyO_r {t : Nat} {k : Reply → List RV' → Tree β} {vs : List RV'} {r : β} (h : (rReplyO t k vs).reach r) : ∃ (x : Reply) (xs : List RV'), vs = replyV t true x :: xs ∧ (k x xs).reach r := by
  unfold rReplyO at h
  split at h
  case h_2 => cases h
  rename_i u x y z l vs
  cases hb : Nat.beq u t with
  | false => rw [hb] at h; cases h
  | true => rw [hb] at h; obtain rfl := Nat.eq_of_beq_eq_true hb; exact ⟨_, _, rfl, h⟩
end Go.Rf
end
section
set_option linter.unusedSimpArgs false
set_option linter.unusedVariables false
namespace Go.Rf
open Go.RowKit
variable {E : Env} {P : Program}
/-- The same, with nothing owned. -/
def RV.unB : RV E.A → RV E.A
  | .v x => .v x.un
  | .tup g xs => .tup g (xs.map TV.un)
  | .blk ty cs => .blk ty (cs.map fun p => (p.1, false))
  | x => x
theorem TV.un_names (x : TV E.A) : x.un.names = x.names := by cases x <;> rfl
theorem RV.unB_names (x : RV E.A) : x.unB.names = x.names := by
  cases x with
  | v x => exact TV.un_names x
  | tup g xs => simp only [RV.unB, RV.names, List.flatMap_map, TV.un_names]
  | blk ty cs => simp only [RV.unB, RV.names, List.filterMap_map]; rfl
  | _ => rfl
theorem unB_any {x : RV E.A} (h : x.unB = .any) : x = .any := by cases x <;> first | rfl | cases h
theorem Rel.unown {n : Nat} {F0 Wr : Nat → Nat → Prop} {w0 : Base} {loc : Nat → Nat} {F : Nat → Nat → Prop} {σ σ' : St E.A} {a : Act} {w : World} (h : Rel n F0 Wr w0 loc F σ a w)
    (hw : ∀ r, get σ' r = get σ r ∨ get σ' r = (get σ r).unB) : Rel n F0 Wr w0 loc F σ' a w := by
  have hbk : ∀ b, (∃ ty cells, get σ (bk b) = .blk ty cells) → ∃ ty cells, get σ' (bk b) = .blk ty cells := by
    rintro b ⟨ty, cells, e⟩
    rcases hw (bk b) with e' | e'
    · exact ⟨ty, cells, by rw [e', e]⟩
    · rw [e] at e'; exact ⟨ty, _, e'⟩
  refine h.move (M := fun r k x y => r = x ∧ k = y) h.size h.defers (fun t h1 h2 => ?_) (fun t ht => ?_) (fun b ty cells hb => ?_) (fun r hr b hb => ?_)
    (fun r k r' k' x y m m' => ⟨m.1.trans m'.1.symm, m.2.trans m'.2.symm⟩) (fun r k i xs u hh => .inr ⟨r, k, ⟨rfl, rfl⟩, ?_⟩) (fun _ _ _ _ _ _ _ _ => rfl) h.keep (Nat.le_refl _)
  · have := h.hi t h1 h2
    rcases hw t with e | e
    · rw [e]; exact this
    · rw [e, this]; rfl
  · have := h.slot t ht
    rcases hw t with e | e
    · rw [e]; exact this
    · rw [e]
      cases hx : get σ t with
      | v x => rw [hx] at this; exact TVR_un this
      | tup g xs =>
        rw [hx] at this
        obtain ⟨us, e4, hall⟩ := this
        exact ⟨us, e4, All2.cast_left (hall.mono (fun _ _ hx => TVR_un hx))⟩
      | blk ty cs => rw [hx] at this; exact this.elim
      | any => trivial
      | und => rw [hx] at this; exact this
      | kn b => rw [hx] at this; exact this
      | eptr i xs j off => rw [hx] at this; exact this
  · rcases hw (bk b) with e | e
    · rw [e] at hb
      obtain ⟨cs, h1, h2, _⟩ := h.blk b ty cells hb
      exact ⟨cells, hb, cs, h1, h2⟩
    · rw [e] at hb
      cases hx : get σ (bk b) with
      | blk ty' cs' =>
        rw [hx] at hb
        injection hb with e1 e2; subst e1; subst e2
        obtain ⟨cs, h1, h2, _⟩ := h.blk b ty' cs' hx
        refine ⟨cs', rfl, cs, h1, ?_⟩
        rw [List.map_map]; exact h2
      | _ => rw [hx] at hb; cases hb
  · refine hbk b (h.live r hr b ?_)
    rcases hw r with e | e
    · rw [e] at hb; exact hb
    · rw [e, RV.unB_names] at hb; exact hb
  · cases hh with
    | slot t i xs ht hg =>
      rcases hw r with e | e
      · rw [e] at hg; exact .slot _ _ _ ht hg
      · rw [e] at hg
        cases hx : get σ r with
        | v x =>
          rw [hx] at hg
          injection hg with hg
          cases x with
          | leaf l o => simp only [TV.un] at hg; injection hg with _ hg; cases hg
          | agg ls => cases hg
        | _ => rw [hx] at hg; cases hg
    | tup t k i xs ts us u ht hg hk hv hu =>
      rcases hw r with e | e
      · rw [e] at hg; exact .tup _ _ _ _ _ _ _ ht hg hk hv hu
      · rw [e] at hg
        cases hx : get σ r with
        | tup g xs' =>
          rw [hx] at hg
          injection hg with _ hg; subst hg
          rw [List.getElem?_map] at hk
          obtain ⟨y, _, hy⟩ := Option.map_eq_some_iff.1 hk
          cases y with
          | leaf l o => simp only [TV.un] at hy; injection hy with _ hy; cases hy
          | agg ls => cases hy
        | _ => rw [hx] at hg; cases hg
    | blk b k i xs ty cells u hg hk hu =>
      rcases hw (bk b) with e | e
      · rw [e] at hg; exact .blk _ _ _ _ _ _ _ hg hk hu
      · rw [e] at hg
        cases hx : get σ (bk b) with
        | blk ty' cs' =>
          rw [hx] at hg
          injection hg with _ hg; subst hg
          rw [List.getElem?_map] at hk
          obtain ⟨y, _, hy⟩ := Option.map_eq_some_iff.1 hk
          injection hy with _ hy; cases hy
        | _ => rw [hx] at hg; cases hg
/-- What a function answers, and what it leaves in variables, need not be told as its own. -/
theorem unownB_ok {f : FuncId} {s s' : Spec E} (h : SpecOk P f s) (ho : s.own = s'.own) (law : ∀ xs vs r, (s'.run xs vs).reach r → ∃ r0, (s.run xs vs).reach r0 ∧ r.1 = r0.1.map TV.un ∧ r.2 = r0.2.map RV.unB) : SpecOk P f s' := by
  intro xs vs r args w loc F Wr hx hv hrel hr
  obtain ⟨⟨r0, v0⟩, h1, h2, h3⟩ := law xs vs r hr
  obtain ⟨rs, vs'⟩ := r
  dsimp only at h1 h2 h3
  subst h2; subst h3
  intro o a next Q hnext
  refine h xs vs (r0, v0) args w loc F Wr hx hv hrel h1 o a next Q fun v w' hc => hnext v w' ?_
  obtain ⟨loc', F', tmps, ho, hr'⟩ := hc
  refine ⟨loc', F', tmps, ?_, ?_⟩
  · rcases ho with ⟨x, e1, e2⟩ | ⟨e1, e2⟩
    · refine .inl ⟨x.un, ?_, e2⟩
      have e1 : r0 = [x] := e1
      subst e1; rfl
    · exact .inr ⟨by simpa using e1, e2⟩
  · have hsz := hr'.n_le
    dsimp only at hsz hr' ⊢
    rw [List.length_map]
    refine hr'.unown fun t => .inr ?_
    by_cases h1 : t < r0.length
    · rw [get_begin_slot (List.getElem?_eq_getElem h1), get_begin_slot (x := (r0[t]).un) (by rw [List.getElem?_map, List.getElem?_eq_getElem h1]; rfl)]
      rfl
    · by_cases h2 : t < 1000000
      · have q : r0.length ≤ t := by omega
        rw [get_begin_out (xs := r0) q h2, get_begin_out (xs := r0.map TV.un) (by rw [List.length_map]; exact q) h2]; rfl
      · have e : t = bk (t - 1000000) := by unfold bk; omega
        rw [e, get_begin_bk (xs := r0) hsz, get_begin_bk (xs := r0.map TV.un) (by rw [List.length_map]; exact hsz), List.getD_eq_getElem?_getD, List.getD_eq_getElem?_getD, List.getElem?_map]
        cases v0[t - 1000000]? <;> rfl
end Go.Rf
end
section
set_option linter.unusedVariables false
set_option linter.unusedSimpArgs false
/-! A variable that holds a pointer to itself and a row of bytes (a Builder): what its two functions leave behind. -/
namespace Go.Rf
open Go.RowKit
variable {E : Env} {P : Program}
section
variable {n : Nat} {F0 Wr : Nat → Nat → Prop} {w0 : Base} {loc : Nat → Nat} {F : Nat → Nat → Prop} {σ : St E.A} {a : Act} {w w' : World}
/-- It has told itself its own place. -/
theorem Rel.setSelf (h : Rel n F0 Wr w0 loc F σ a w) {b : Nat} {ty : TypeId} {o : Bool} {rest : List (Leaf E.A × Bool)} (hb : get σ (bk b) = .blk ty ((⟨.self, ()⟩, o) :: rest)) :
    Rel n F0 Wr w0 loc F σ a (w.setCell ⟨loc b, 0, none⟩ (.pointer (some ⟨loc b, 0, none⟩))) := by
  obtain ⟨cs, h1, h2, h3⟩ := h.blk b ty _ hb
  have hoth : ∀ g, g ≠ loc b → (w.setCell ⟨loc b, 0, none⟩ (.pointer (some ⟨loc b, 0, none⟩))).heap[g]? = w.heap[g]? := fun g hg => Below.heap_setCell _ _ _ _ hg
  have hnew : (w.setCell ⟨loc b, 0, none⟩ (.pointer (some ⟨loc b, 0, none⟩))).heap[loc b]? = some (.cells (cs.setIfInBounds 0 (.pointer (some ⟨loc b, 0, none⟩))) ty (0, 0)) := by
    simp [World.setCell, Array.getElem?_modify, h1]
  have hm : Mv F w F (w.setCell ⟨loc b, 0, none⟩ (.pointer (some ⟨loc b, 0, none⟩))) := by
    intro g o' u hf hc
    refine ⟨?_, hf⟩
    have : g ≠ loc b := fun e => hf (e ▸ (h3 o').1)
    simpa [World.cell?, hoth g this] using hc
  refine h.move (M := fun r k x y => r = x ∧ k = y) h.size h.defers h.hi (fun t ht => RVR_mv hm (fun _ _ => rfl) (h.slot t ht)) (fun b' ty' cells' hb' => ⟨cells', hb', ?_⟩) h.live (fun r k r' k' x y m m' => ⟨m.1.trans m'.1.symm, m.2.trans m'.2.symm⟩)
    (fun r k i xs u hh => .inr ⟨r, k, ⟨rfl, rfl⟩, ?_⟩) (fun r k i xs u g hh hg => hoth g (fun e => h.apart r k i xs u g b _ _ hh hg hb e.symm))
    (h.keep.trans (Wr1 := fun g o => g = loc b) (Keep.set w (loc b) 0 _ rfl) (fun g o hlt e => by subst e; exact (h3 o).2 hlt)) (by simp [World.setCell])
  · obtain ⟨cs', k1, k2, _⟩ := h.blk b' ty' cells' hb'
    by_cases e : b' = b
    · subst e
      rw [hb] at hb'; injection hb' with e1 e2; subst e1; subst e2
      rw [h1] at k1; injection k1 with k1; injection k1 with k1; subst k1
      refine ⟨_, hnew, ?_⟩
      have := k2.mono (S := CV (loc b') loc F _) (fun _ _ => CV_mv hm (fun _ _ => rfl))
      obtain ⟨l⟩ := cs
      cases l with
      | nil => exact this
      | cons v vs => exact ⟨.inr rfl, this.2⟩
    · have hne : loc b' ≠ loc b := fun e' => e (h.inj _ _ _ _ _ _ hb' hb e')
      exact ⟨cs', (hoth _ hne).trans k1, k2.mono (fun _ _ => CV_mv hm (fun _ _ => rfl))⟩
  · cases hh with
    | slot t i xs ht hg => exact .slot _ _ _ ht hg
    | tup t k i xs ts us u ht hg hk hv hu => exact .tup _ _ _ _ _ _ _ ht hg hk hv hu
    | blk b' k i xs ty' cells' u hg hk hu =>
      refine .blk _ _ _ _ _ _ _ hg hk ?_
      by_cases e : b' = b
      · subst e
        rw [hb] at hg; injection hg with e1 e2; subst e1; subst e2
        cases k with
        | zero => simp at hk
        | succ k =>
          simp only [World.cell?, hnew] at hu
          simp only [World.cell?, h1]
          simpa [Array.getElem?_setIfInBounds] using hu
      · have hne : loc b' ≠ loc b := fun e' => e (h.inj _ _ _ _ _ _ hg hb e')
        simpa [World.cell?, hoth _ hne] using hu
/-- Its row is not its own any more. -/
theorem Rel.lose (h : Rel n F0 Wr w0 loc F σ a w) {b : Nat} {ty : TypeId} {cells : List (Leaf E.A × Bool)} {k i : Nat} {xs : List (E.A i)} (hb : get σ (bk b) = .blk ty cells) {cells2 : List (Leaf E.A × Bool)} (hk : cells[k]? = some (⟨.sl i, xs⟩, true)) (hc2 : cells2 = cells.set k (⟨.sl i, xs⟩, false)) :
    Rel n F0 Wr w0 loc F ((bk b, .blk ty cells2) :: σ) a w := by
  obtain ⟨cs, h1, h2, h3⟩ := h.blk b ty _ hb
  have hg : ∀ r, get ((bk b, RV.blk ty cells2) :: σ) r = if bk b = r then .blk ty cells2 else get σ r := fun r => get_cons _ _ _ _
  have hbs : ∀ {s}, s < n → bk b ≠ s := fun hs => bk_ne_slot h.n_le hs
  have hmap : cells2.map (·.1) = cells.map (·.1) := by
    rw [hc2, List.map_set]
    apply List.ext_getElem?
    intro j
    rw [List.getElem?_set]
    split
    · rename_i e
      subst e
      simp only [List.length_map]
      split
      · rw [List.getElem?_map, hk]; rfl
      · rename_i hl
        rw [List.getElem?_eq_none (by simpa using hl)]
    · rfl
  refine h.move (M := fun r k x y => r = x ∧ k = y) h.size h.defers (fun t ht ht' => by rw [hg, if_neg (by unfold bk; omega)]; exact h.hi t ht ht') (fun t ht => by rw [hg, if_neg (hbs ht)]; exact h.slot t ht) (fun b' ty' cells' hb' => ?_) (fun r hr b' hb' => ?_)
    (fun r k r' k' x y m m' => ⟨m.1.trans m'.1.symm, m.2.trans m'.2.symm⟩) (fun r k' i' xs' u hh => .inr ⟨r, k', ⟨rfl, rfl⟩, ?_⟩) (fun _ _ _ _ _ _ _ _ => rfl) h.keep (Nat.le_refl _)
  · rw [hg] at hb'
    by_cases e : bk b = bk b'
    · rw [if_pos e] at hb'; injection hb' with e1 e2; subst e1; subst e2
      obtain rfl := bk_inj e
      exact ⟨cells, hb, cs, h1, by rw [hmap]; exact h2⟩
    · rw [if_neg e] at hb'
      obtain ⟨cs', k1, k2, _⟩ := h.blk b' ty' cells' hb'
      exact ⟨cells', hb', cs', k1, k2⟩
  · have hlive : (∃ ty cells, get σ (bk b') = .blk ty cells) → ∃ t1 c, get ((bk b, RV.blk ty cells2) :: σ) (bk b') = .blk t1 c := by
      rintro ⟨ty', c, hc⟩
      rw [hg]
      by_cases e : bk b = bk b'
      · rw [if_pos e]; exact ⟨_, _, rfl⟩
      · rw [if_neg e]; exact ⟨ty', c, hc⟩
    rw [hg] at hb'
    by_cases e : bk b = r
    · rw [if_pos e] at hb'
      refine hlive (h.live (bk b) (.inr (by unfold bk; omega)) b' ?_)
      rw [hb]
      obtain ⟨p, hp, hp'⟩ := List.mem_filterMap.1 hb'
      have : p.1 ∈ cells.map (·.1) := by rw [← hmap]; exact List.mem_map.2 ⟨p, hp, rfl⟩
      obtain ⟨q, hq, e'⟩ := List.mem_map.1 this
      exact List.mem_filterMap.2 ⟨q, hq, by rw [e']; exact hp'⟩
    · rw [if_neg e] at hb'; exact hlive (h.live r hr b' hb')
  · cases hh with
    | slot t i' xs' ht hg' => rw [hg, if_neg (hbs ht)] at hg'; exact .slot _ _ _ ht hg'
    | tup t k' i' xs' ts us u ht hg' hk' hv hu => rw [hg, if_neg (hbs ht)] at hg'; exact .tup _ _ _ _ _ _ _ ht hg' hk' hv hu
    | blk b' k' i' xs' ty' cells' u hg' hk' hu =>
      rw [hg] at hg'
      by_cases e : bk b = bk b'
      · rw [if_pos e] at hg'; injection hg' with e1 e2; subst e1; subst e2
        obtain rfl := bk_inj e
        rw [hc2, List.getElem?_set] at hk'
        split at hk'
        · split at hk'
          · injection hk' with hk'; injection hk' with _ hk'; cases hk'
          · cases hk'
        · exact .blk _ _ _ _ _ _ _ hb hk' hu
      · rw [if_neg e] at hg'; exact .blk _ _ _ _ _ _ _ hg' hk' hu
/-- A row that is nobody's own is frozen. -/
theorem Rel.frozen (h : Rel n F0 Wr w0 loc F σ a w) {g : Nat} {c : Array Value} {t : TypeId} {fr fr' : Nat × Nat} (h1 : w.heap[g]? = some (.cells c t fr)) (h2 : w'.heap[g]? = some (.cells c t fr')) (hoth : ∀ k, k ≠ g → w'.heap[k]? = w.heap[k]?) (hsz : w'.heap.size = w.heap.size)
    (hos : w'.os = w.os) (htape : w'.tape = w.tape) (hout : w'.output = w.output)
    (hno : ∀ r k i xs u, Hold loc n σ a w r k i xs u → u.ownBlock ≠ some g) (hnb : ∀ b ty cells, get σ (bk b) = .blk ty cells → loc b ≠ g) (hwr : g < w0.heap.size → ∃ o, Wr g o) : Rel n F0 Wr w0 loc F σ a w' := by
  refine h.world (F' := F) (fun g' o u hf hc => ⟨?_, hf⟩) (fun r k i xs u g' hh hg => ⟨hoth g' (fun e => hno _ _ _ _ _ hh (e ▸ hg)), fun o hlo => ((h.own r k i xs u hh).2 g' hg o hlo).1⟩) (fun b ty cells hb => ⟨hoth _ (hnb b ty cells hb), fun o => ((h.blk b ty cells hb).choose_spec.2.2 o).1⟩)
    (h.keep.trans (Wr1 := fun g' o => g' = g ∧ (g < w0.heap.size → Wr g o)) ⟨hos, htape, hout, by rw [hsz]; exact Nat.le_refl _, fun k hk => ?_⟩ (fun g' o hlt hw => by obtain ⟨rfl, hw⟩ := hw; exact hw hlt)) (fun g' o hf => by rw [hsz]; exact h.dom g' o hf) h.old h.still
  · by_cases e : g' = g
    · subst e; simp only [World.cell?, h1, h2] at hc ⊢; exact hc
    · simpa [World.cell?, hoth g' e] using hc
  · by_cases e : k = g
    · subst e
      refine .inr ⟨c, c, t, fr, fr', h1, h2, rfl, fun _ _ => rfl, .inr ?_⟩
      by_cases hlt : k < w0.heap.size
      · obtain ⟨o, ho⟩ := hwr hlt
        exact ⟨o, rfl, fun _ => ho⟩
      · exact ⟨0, rfl, fun e => absurd e hlt⟩
    · exact .inl (hoth k e)
end
end Go.Rf
end
section
set_option linter.unusedSimpArgs false
set_option linter.unusedVariables false
/-! Loops whose summary forgets what nobody asks for. -/
namespace Go.Rf
open Go.RowKit
variable {E : Env} {P : Program}
/-- The same, or forgotten. -/
def Wk (x y : RV E.A) : Prop := y = x ∨ (y = .any ∧ ∀ ty cells, x ≠ .blk ty cells)
theorem Rel.forget {n : Nat} {F0 Wr : Nat → Nat → Prop} {w0 : Base} {loc : Nat → Nat} {F : Nat → Nat → Prop} {σ σ' : St E.A} {a : Act} {w : World} (h : Rel n F0 Wr w0 loc F σ a w) (hw : ∀ r, Wk (E := E) (get σ r) (get σ' r)) : Rel n F0 Wr w0 loc F σ' a w := by
  have hin : ∀ r x, get σ' r = x → x ≠ .any → get σ r = x := by
    intro r x e hx
    rcases hw r with e' | ⟨e', _⟩
    · rw [← e', e]
    · exact absurd (e.symm.trans e') hx
  have hbk : ∀ b, (∃ ty cells, get σ (bk b) = .blk ty cells) → ∃ ty cells, get σ' (bk b) = .blk ty cells := by
    rintro b ⟨ty, cells, e⟩
    rcases hw (bk b) with e' | ⟨_, e'⟩
    · exact ⟨ty, cells, by rw [e', e]⟩
    · exact absurd e (e' ty cells)
  refine h.move (M := fun r k x y => r = x ∧ k = y) h.size h.defers (fun t h1 h2 => ?_) (fun t ht => ?_) (fun b ty cells hb => ?_) (fun r hr b hb => ?_)
    (fun r k r' k' x y m m' => ⟨m.1.trans m'.1.symm, m.2.trans m'.2.symm⟩) (fun r k i xs u hh => .inr ⟨r, k, ⟨rfl, rfl⟩, ?_⟩) (fun _ _ _ _ _ _ _ _ => rfl) h.keep (Nat.le_refl _)
  · rcases hw t with e | ⟨e, _⟩
    · rw [e]; exact h.hi t h1 h2
    · exact e
  · rcases hw t with e | ⟨e, _⟩
    · rw [e]; exact h.slot t ht
    · rw [e]; trivial
  · obtain ⟨cs, h1, h2, _⟩ := h.blk b ty cells (hin _ _ hb (by simp)); exact ⟨cells, hin _ _ hb (by simp), cs, h1, h2⟩
  · rcases hw r with e | ⟨e, _⟩
    · rw [e] at hb; exact hbk b (h.live r hr b hb)
    · rw [e] at hb; simp [RV.names] at hb
  · cases hh with
    | slot t i xs ht hg' => exact .slot _ _ _ ht (hin _ _ hg' (by simp))
    | tup t k i xs ts us u ht hg' hk hv hu => exact .tup _ _ _ _ _ _ _ ht (hin _ _ hg' (by simp)) hk hv hu
    | blk b k i xs ty cells u hg' hk hu => exact .blk _ _ _ _ _ _ _ (hin _ _ hg' (by simp)) hk hu
theorem wk_zip : ∀ {live : List Nat} {vs ws : List (RV E.A)}, All2 (Wk (E := E)) vs ws → ∀ r, Wk (E := E) (get (live.zip vs) r) (get (live.zip ws) r)
  | [], _, _, _, r => .inl rfl
  | _ :: _, [], [], _, r => .inl rfl
  | l :: live, v :: vs, w :: ws, h, r => by
    simp only [List.zip_cons_cons, get_cons]
    by_cases e : l = r
    · rw [if_pos e, if_pos e]; exact h.1
    · rw [if_neg e, if_neg e]; exact wk_zip h.2 r
theorem Goal.forget {n : Nat} {F0 Wr : Nat → Nat → Prop} {w0 : Base} {live : List Nat} {vs ws : List (RV E.A)} {a : Act} {w : World} (h : Goal n F0 Wr w0 (live.zip vs) a w) (hw : All2 (Wk (E := E)) vs ws) : Goal n F0 Wr w0 (live.zip ws) a w := by
  obtain ⟨loc, F, hr⟩ := h
  exact ⟨loc, F, hr.forget (wk_zip hw)⟩
theorem wk_refl : ∀ (vs : List (RV E.A)), All2 (Wk (E := E)) vs vs
  | [] => trivial
  | _ :: vs => ⟨.inl rfl, wk_refl vs⟩
/-- What one round leaves to do. -/
def Onward2 (s : LoopSum E) (id : Nat) (μ : List (RV E.A) → Nat) (vs : List (RV E.A)) (r r1 : Ex × List (RV E.A)) : Prop :=
  ∃ vs2, All2 (Wk (E := E)) r1.2 vs2 ∧ Onward s id μ vs r (r1.1, vs2)
theorem loop_rule2 {ctx : Ctx E} (hc : CtxOk P ctx) (hm : P.follows .mixedOrders = true) {id : Nat} {c : Code} (hl : LoopsOk P ctx c) {s : LoopSum E} (μ : List (RV E.A) → Nat)
    (law : ∀ vs r, (s.run vs).reach r → ∃ r1, (bodyRun ctx s.live c vs).reach r1 ∧ Onward2 s id μ vs r r1) : LoopOk P ctx id c s := by
  intro F0 Wr w0 hnp vs r hr a w Q hg hq
  let S : Act → World → Nat → Prop := fun a w k => ∃ vs, Goal ctx.n F0 Wr w0 (s.live.zip vs) a w ∧ (s.run vs).reach r ∧ μ vs = k
  refine wp_block (wp_loop (fun a w => ∃ k, S a w k) (fun a w => mn (S a w)) ⟨_, vs, hg, hr, rfl⟩ (fun a w hI => ?_))
  obtain ⟨⟨vs, hg, hr, hk⟩, hmin⟩ := mn_spec hI
  obtain ⟨r1, hb, vs2, hwk, ho⟩ := law vs r hr
  unfold bodyRun at hb
  obtain ⟨r0, h0, h1⟩ := Tree.reach_bind.1 hb
  cases hn : namesIn s.live (s.live.map (get r0.2)) with
  | false => rw [hn] at h1; simp [Tree.reach] at h1
  | true =>
    rw [hn] at h1
    simp only [Bool.not_true, cond_false, Tree.reach] at h1
    subst h1
    refine run_ok hc hm hnp c hl _ r0 h0 a w _ hg (fun a' w' hg' => ?_)
    have hweak : Goal ctx.n F0 Wr w0 (s.live.zip vs2) a' w' := by
      obtain ⟨loc, F, h⟩ := hg'
      exact Goal.forget ⟨loc, F, h.weak hn⟩ hwk
    obtain ⟨e, τ⟩ := r0
    cases e with
    | normal =>
      obtain ⟨hlt, hr'⟩ := ho
      refine ⟨⟨_, _, hweak, hr', rfl⟩, ?_⟩
      have := (mn_spec (S := S a' w') ⟨_, _, hweak, hr', rfl⟩).2 _ ⟨_, hweak, hr', rfl⟩
      show mn (S a' w') < mn (S a w)
      rw [← hk]
      exact Nat.lt_of_le_of_lt this hlt
    | exit id' =>
      have ho : r = (if id' = id then .normal else .exit id', _) := ho
      subst ho
      show (if id' = id then Q .normal a' w' else Q (.exit id') a' w')
      by_cases e : id' = id
      · rw [if_pos e]; have := hq a' w' hweak; simpa [e, Ex.to] using this
      · rw [if_neg e]; have := hq a' w' hweak; simpa [e, Ex.to] using this
    | ret =>
      have ho : r = (.ret, _) := ho
      subst ho
      exact hq a' w' hweak
/-- A loop, by its rounds; what nobody asks for may be forgotten. -/
theorem loopOk2 {ctx : Ctx E} (hc : CtxOk P ctx) (hm : P.follows .mixedOrders = true) {id : Nat} {c : Code} (hl : LoopAll P ctx (loopsIn c)) {s : LoopSum E} (μ : List (RV E.A) → Nat)
    (law : ∀ vs r, (s.run vs).reach r → ∃ r1, (bodyRun ctx s.live c vs).reach r1 ∧ Onward2 s id μ vs r r1) : LoopOk P ctx id c s := loop_rule2 hc hm (loops_ok _ hl) μ law
theorem onward2 {s : LoopSum E} {id : Nat} {μ : List (RV E.A) → Nat} {vs : List (RV E.A)} {r r1 : Ex × List (RV E.A)} (h : Onward s id μ vs r r1) : Onward2 s id μ vs r r1 := ⟨r1.2, wk_refl _, h⟩
theorem onw_ret {s : LoopSum E} {id : Nat} {μ : List (RV E.A) → Nat} {vs vs1 vs2 : List (RV E.A)} (h : All2 (Wk (E := E)) vs1 vs2) : Onward2 s id μ vs (.ret, vs2) (.ret, vs1) := ⟨vs2, h, rfl⟩
theorem onw_exit {s : LoopSum E} {id : Nat} {μ : List (RV E.A) → Nat} {vs vs1 vs2 : List (RV E.A)} (h : All2 (Wk (E := E)) vs1 vs2) : Onward2 s id μ vs (.normal, vs2) (.exit id, vs1) := ⟨vs2, h, by show _ = (_, _); rw [if_pos rfl]⟩
theorem onw {s : LoopSum E} {id : Nat} {μ : List (RV E.A) → Nat} {vs vs1 vs2 : List (RV E.A)} {r : Ex × List (RV E.A)} (h : All2 (Wk (E := E)) vs1 vs2) (hm : μ vs2 < μ vs) (hr : (s.run vs2).reach r) : Onward2 s id μ vs r (.normal, vs1) := ⟨vs2, h, hm, hr⟩
theorem wkE {x : RV E.A} : Wk (E := E) x x := .inl rfl
theorem wkV {x : TV E.A} : Wk (E := E) (.v x) .any := .inr ⟨rfl, by simp⟩
end Go.Rf
end
