/- Integer operations that the kernel works out quickly. -/
import Derived.Test.YtjlikmhhaecgnaaGreatDoorAxM
namespace Go.Ax
set_option linter.unusedVariables false
open Go.Sx

def pw : IntKind → Nat
  | .i8 => 256 | .u8 => 256 | .i16 => 65536 | .u16 => 65536 | .i32 => 4294967296 | .u32 => 4294967296 | .i64 => 18446744073709551616 | .u64 => 18446744073709551616
def hf : IntKind → Nat
  | .i8 => 128 | .u8 => 256 | .i16 => 32768 | .u16 => 65536 | .i32 => 2147483648 | .u32 => 4294967296 | .i64 => 9223372036854775808 | .u64 => 18446744073709551616
/-- A number brought into a kind. -/
def wrapQ (k : IntKind) (n : Int) : Int :=
  match n with
  | .ofNat m => bif Nat.blt m (hf k) then .ofNat m else k.wrap (.ofNat m)
  | .negSucc m => k.wrap (.negSucc m)
theorem wrapQ_eq (k : IntKind) (n : Int) : wrapQ k n = k.wrap n := by
  unfold wrapQ
  split
  · rename_i m
    cases hb : Nat.blt m (hf k) with
    | false => rfl
    | true =>
      rw [cond_true]
      simp only [Nat.blt_eq] at hb
      cases k <;> simp only [hf] at hb <;> simp [IntKind.wrap, IntKind.bits, IntKind.signed] <;> omega
  · rfl

def addI (x y : Int) : Int := match x, y with | .ofNat a, .ofNat b => .ofNat (a + b) | x, y => x + y
theorem addI_eq (x y : Int) : addI x y = x + y := by cases x <;> cases y <;> rfl
def subI (x y : Int) : Int := match x, y with | .ofNat a, .ofNat b => bif Nat.ble b a then .ofNat (a - b) else x - y | x, y => x - y
theorem subI_eq (x y : Int) : subI x y = x - y := by
  cases x <;> cases y <;> try rfl
  rename_i a b
  show (bif Nat.ble b a then Int.ofNat (a - b) else Int.ofNat a - Int.ofNat b) = _
  cases h : Nat.ble b a with
  | false => rfl
  | true =>
    have := ble_le h
    rw [cond_true]
    show ((a - b : Nat) : Int) = (a : Int) - (b : Int)
    omega
def mulI (x y : Int) : Int := match x, y with | .ofNat a, .ofNat b => .ofNat (a * b) | x, y => x * y
theorem mulI_eq (x y : Int) : mulI x y = x * y := by cases x <;> cases y <;> rfl
def ltI (x y : Int) : Bool := match x, y with
  | .ofNat a, .ofNat b => Nat.blt a b
  | .ofNat _, .negSucc _ => false
  | .negSucc _, .ofNat _ => true
  | .negSucc a, .negSucc b => Nat.blt b a
theorem ltI_eq (x y : Int) : ltI x y = decide (x < y) := by
  cases x <;> cases y <;> simp only [ltI]
  · rename_i a b
    rw [Bool.eq_iff_iff]; simp [Nat.blt_eq]
  · rename_i a b
    symm; simp; omega
  · rename_i a b
    symm; simp; omega
  · rename_i a b
    rw [Bool.eq_iff_iff]; simp [Nat.blt_eq]; omega
theorem intEq_eq (x y : Int) : intEq x y = (x == y) := by
  rw [Bool.eq_iff_iff]
  constructor
  · intro h; rw [intEq_spec h]; simp
  · intro h; rw [beq_iff_eq] at h; subst h; cases x <;> simp [intEq]

theorem leI_eq (x y : Int) : (!ltI y x) = decide (x ≤ y) := by
  rw [ltI_eq, Bool.eq_iff_iff]; simp
def shrI (m s : Nat) : Nat := Nat.shiftRight m s
noncomputable def binQ (op : BinOp) (k : IntKind) (a : Int) (k' : IntKind) (b : Int) : Option Value :=
  match op with
  | .shl => (match b with | .ofNat s => some (.int k (wrapQ k (mulI a (.ofNat (2 ^ Nat.min s k.bits))))) | _ => none)
  | .shr => (match a, b with | .ofNat m, .ofNat s => some (.int k (.ofNat (m / 2 ^ Nat.min s k.bits))) | _, _ => none)
  | .add => bif kindEq k k' then some (.int k (wrapQ k (addI a b))) else none
  | .sub => bif kindEq k k' then some (.int k (wrapQ k (subI a b))) else none
  | .mul => bif kindEq k k' then some (.int k (wrapQ k (mulI a b))) else none
  | .eql => bif kindEq k k' then some (.bool (intEq a b)) else none
  | .neq => bif kindEq k k' then some (.bool (!intEq a b)) else none
  | .lss => bif kindEq k k' then some (.bool (ltI a b)) else none
  | .leq => bif kindEq k k' then some (.bool (!ltI b a)) else none
  | .gtr => bif kindEq k k' then some (.bool (ltI b a)) else none
  | .geq => bif kindEq k k' then some (.bool (!ltI a b)) else none
  | _ => none
theorem binQ_run {P : Program} {op : BinOp} {k k' : IntKind} {a b : Int} {v : Value} (h : binQ op k a k' b = some v) (t : TypeId) (w : World) : (binOp op t (.int k a) (.int k' b)).run P w = .ok v w := by
  unfold binQ at h
  split at h
  · split at h
    · rename_i s
      cases h
      rw [wrapQ_eq, mulI_eq]
      simp only [binOp, Op.shift]
      rw [if_neg (by simp)]
      simp
    · cases h
  · split at h
    · rename_i m s
      cases h
      simp only [binOp, Op.shift]
      rw [if_neg (by simp)]
      simp
      rw [Int.fdiv_eq_ediv_of_nonneg _ (Int.pow_nonneg (by omega))]
    · cases h
  all_goals first
    | (cases hk : kindEq k k' with
       | false => rw [hk] at h; cases h
       | true =>
         have := kindEq_spec hk
         subst this
         rw [hk, cond_true] at h
         cases h
         first
           | (rw [wrapQ_eq, addI_eq]; simp [binOp, Op.intArith]; done)
           | (rw [wrapQ_eq, subI_eq]; simp [binOp, Op.intArith]; done)
           | (rw [wrapQ_eq, mulI_eq]; simp [binOp, Op.intArith]; done)
           | (simp [binOp, Op.intCmp, intEq_eq]; done)
           | (rw [leI_eq]; simp [binOp, Op.intCmp]; done)
           | (simp [binOp, Op.intCmp, ltI_eq]; done)
           | (simp [binOp, Op.intCmp, intEq_eq, bne]; done)
           | (rw [intEq_eq]; rfl))
    | cases h
end Go.Ax
