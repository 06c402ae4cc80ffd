/- Faster runs: what hangs on the code alone is worked out once. Integers, paths, operands. -/
import Derived.Test.YtjlikmhhaecgnaaGreatDoorAxJ
namespace Go.Ax
set_option linter.unusedVariables false
open Go.Sx

/-! Ways through a store. -/
inductive Pa where
  | z
  | l (p : Pa)
  | r (p : Pa)
noncomputable def Pa.ofF (fuel : Nat) : Nat → Pa := Nat.rec (fun _ => .z) (fun _ ih k => bif Nat.beq k 0 then .z else bif Nat.beq (k % 2) 1 then .l (ih (k / 2)) else .r (ih (k / 2 - 1))) fuel
noncomputable def Pa.of (k : Nat) : Pa := Pa.ofF 20 k
noncomputable def T.gp {α : Type} (p : Pa) : T α → Option α := Pa.rec (fun t => t.v) (fun _ ih t => ih t.l) (fun _ ih t => ih t.r) p
noncomputable def T.sp {α : Type} (x : α) (p : Pa) : T α → T α := Pa.rec (fun t => .n t.l (some x) t.r) (fun _ ih t => .n (ih t.l) t.v t.r) (fun _ ih t => .n t.l t.v (ih t.r)) p
theorem beq_0 {k : Nat} (h : k ≠ 0) : Nat.beq k 0 = false := by cases k with | zero => exact absurd rfl h | succ => rfl
theorem beq_ne {a b : Nat} (h : a ≠ b) : Nat.beq a b = false := by
  cases hb : Nat.beq a b with
  | false => rfl
  | true => exact absurd (Nat.eq_of_beq_eq_true hb) h
theorem T.gp_ofF {α : Type} : ∀ (fuel : Nat) (t : T α) (k : Nat), k + 1 < 2 ^ fuel → t.gp (Pa.ofF fuel k) = t.get k := by
  intro fuel
  induction fuel with
  | zero => intro t k h; simp at h
  | succ fuel ih =>
    intro t k h
    show T.gp (bif Nat.beq k 0 then .z else bif Nat.beq (k % 2) 1 then .l (Pa.ofF fuel (k / 2)) else .r (Pa.ofF fuel (k / 2 - 1))) t = _
    rw [T.get_parts t k]
    by_cases h0 : k = 0
    · subst h0; rfl
    · rw [beq_0 h0, cond_false, if_neg h0]
      by_cases h2 : k % 2 = 1
      · rw [h2, if_pos rfl]
        show T.gp (Pa.ofF fuel (k / 2)) t.l = _
        rw [ih _ _ (by omega)]
      · rw [beq_ne h2, cond_false, if_neg h2]
        show T.gp (Pa.ofF fuel (k / 2 - 1)) t.r = _
        rw [ih _ _ (by omega)]
theorem T.sp_ofF {α : Type} (x : α) : ∀ (fuel : Nat) (t : T α) (k : Nat), k + 1 < 2 ^ fuel → t.sp x (Pa.ofF fuel k) = T.setF x fuel t k := by
  intro fuel
  induction fuel with
  | zero => intro t k h; simp at h
  | succ fuel ih =>
    intro t k h
    show T.sp x (bif Nat.beq k 0 then .z else bif Nat.beq (k % 2) 1 then .l (Pa.ofF fuel (k / 2)) else .r (Pa.ofF fuel (k / 2 - 1))) t =
      (Bool.rec (Bool.rec (T.n t.l t.v (T.setF x fuel t.r (k / 2 - 1))) (T.n (T.setF x fuel t.l (k / 2)) t.v t.r) (Nat.beq (k % 2) 1)) (T.n t.l (some x) t.r) (Nat.beq k 0) : T α)
    by_cases h0 : k = 0
    · subst h0; rfl
    · rw [beq_0 h0, cond_false]
      by_cases h2 : k % 2 = 1
      · rw [h2]
        show T.n (T.sp x (Pa.ofF fuel (k / 2)) t.l) t.v t.r = T.n _ _ _
        rw [ih _ _ (by omega)]
      · rw [beq_ne h2, cond_false]
        show T.n t.l t.v (T.sp x (Pa.ofF fuel (k / 2 - 1)) t.r) = T.n _ _ _
        rw [ih _ _ (by omega)]
theorem few_20 {k : Nat} (h : few k = true) : k + 1 < 2 ^ 20 := by
  have : k < 1000000 := by simpa [few, Nat.blt_eq] using h
  have : (2 : Nat) ^ 20 = 1048576 := by decide
  omega
theorem T.gp_of {α : Type} {t : T α} {k : Nat} (h : few k = true) : t.gp (Pa.of k) = t.get k := T.gp_ofF 20 t k (few_20 h)
theorem T.sp_of {α : Type} {t : T α} {x : α} {k : Nat} (h : few k = true) : t.sp x (Pa.of k) = t.set k x := T.sp_ofF x 20 t k (few_20 h)

/-! Operands. -/
inductive Ad where
  | t (p : Pa)
  | c (v : V)
noncomputable def vOr (o : Option V) : V := Option.rec (.f undef) (fun v => v) o
noncomputable def Ad.get (a : Ad) (f : F) : V := Ad.rec (fun p => vOr (T.gp p f)) (fun v => v) a
noncomputable def ca (x : Operand) : Ad := match x with
  | .tmp t => bif few t then .t (Pa.of t) else .c (.f undef)
  | .const v => .c (.f v)
  | .global g => .c (.f (.pointer (some ⟨g, 0, none⟩)))
  | .func g => .c (.f (.func (.func g) #[] #[]))
theorem fget_eq (f : F) (t : Nat) : fget f t = vOr (f.get t) := by unfold fget vOr; cases f.get t <;> rfl
theorem ca_rel {ρ : Rho} {n : Nat} {f : F} {a : Act} (hf : FR ρ n f a) (x : Operand) : VR ρ ((ca x).get f) (a.eval x) := by
  cases x with
  | tmp t =>
    have h := hf.t t
    show VR ρ (Ad.get (bif few t then Ad.t (Pa.of t) else .c (.f undef)) f) _
    cases hb : few t with
    | true =>
      rw [cond_true]
      show VR ρ (vOr (T.gp (Pa.of t) f)) _
      rw [T.gp_of hb, ← fget_eq]
      exact h
    | false =>
      rw [cond_false]
      show a.eval (.tmp t) = undef
      have h1 : n < 1000000 := by have := hf.few; simpa [few, Nat.blt_eq] using this
      have h2 : (1000000 : Nat) ≤ (t : Nat) := Nat.le_of_not_lt fun hlt => by
        have : Nat.blt t 1000000 = true := by simpa [Nat.blt_eq] using hlt
        rw [show few t = true from this] at hb
        cases hb
      show a.tmps.getD t undef = undef
      have : a.tmps.size ≤ (t : Nat) := by rw [hf.s]; exact Nat.le_trans (Nat.le_of_lt h1) h2
      simp [Array.getD_eq_getD_getElem?, Array.getElem?_eq_none this]
  | _ => rfl
noncomputable def cas (xs : List Operand) : List Ad := List.rec [] (fun x _ ih => ca x :: ih) xs
noncomputable def gets (as : List Ad) (f : F) : List V := List.rec [] (fun x _ ih => x.get f :: ih) as
theorem cas_rel {ρ : Rho} {n : Nat} {f : F} {a : Act} (hf : FR ρ n f a) (xs : List Operand) : VRs ρ (gets (cas xs) f) (xs.map a.eval) := by
  induction xs with
  | nil => rfl
  | cons x xs ih => exact ⟨_, _, rfl, ca_rel hf x, ih⟩

noncomputable def cd (n : Nat) (d : Option Nat) : Option Pa := match d with | some d => bif Nat.blt d n then some (Pa.of d) else none | none => none
noncomputable def putP (d : Option Pa) (v : V) (f : F) : F := Option.rec f (fun p => T.sp v p f) d
theorem FR.putP {ρ : Rho} {n : Nat} {f : F} {a : Act} (h : FR ρ n f a) (d : Option Nat) {v : V} {u : Value} (hv : VR ρ v u) : FR ρ n (putP (cd n d) v f) (a.put d u) := by
  have e : Ax.putP (cd n d) v f = fput n f d v := by
    cases d with
    | none => rfl
    | some d =>
      show Ax.putP (bif Nat.blt d n then some (Pa.of d) else none) v f = bif Nat.blt d n then f.set d v else f
      cases hb : Nat.blt d n with
      | false => rfl
      | true =>
        have hd : Ax.few d = true := by
          have := h.few
          simp only [Ax.few, Nat.blt_eq] at this hb ⊢
          omega
        show T.sp v (Pa.of d) f = f.set d v
        exact T.sp_of hd
  rw [e]
  exact h.put d hv

/-! Guards. -/
noncomputable def isB (v : V) (w : Bool) : Bool := V.casesOn (motive_1 := fun _ => Bool) v (fun u => Value.casesOn (motive_1 := fun _ => Bool) u (fun b => Bool.rec (Bool.rec true false w) w b) (fun _ _ => false) (fun _ _ => false) (fun _ _ _ => false) (fun _ => false) (fun _ => false) (fun _ _ _ => false) (fun _ => false) (fun _ => false) (fun _ _ _ => false) false (fun _ _ => false) false (fun _ => false) (fun _ => false)) (fun _ _ _ => false) (fun _ _ _ _ _ _ _ => false) (fun _ => false) (fun _ => false) (fun _ => false) (fun _ _ _ => false) (fun _ _ => false)
noncomputable def cg (n : Nat) (ops : Array Oper) (o : Oper) : Option (Ad × Bool) :=
  match o.guard with
  | none => none
  | some (j, want) => match (ops[j]?).bind (·.dst) with
    | some d => bif Nat.blt d n then some (ca (.tmp d), want) else some (.c (.f undef), want)
    | none => some (.c (.f undef), want)
noncomputable def wantedB (c : Option (Ad × Bool)) (f : F) : Bool := Option.rec true (fun p => Prod.rec (fun x w => isB (x.get f) w) p) c
theorem wantedB_eq {ρ : Rho} {n : Nat} {f : F} {a : Act} (hf : FR ρ n f a) (ops : Array Oper) (o : Oper) : Region.wanted o (yielded ops a.tmps) = wantedB (cg n ops o) f := by
  rw [wantedA_eq hf]
  unfold wantedA cg
  cases hg : o.guard with
  | none => rfl
  | some jw =>
    obtain ⟨j, want⟩ := jw
    simp only
    unfold yieldA
    cases hd : (ops[j]?).bind (·.dst) with
    | none => rfl
    | some d =>
      simp only
      cases hb : Nat.blt d n with
      | false => rfl
      | true =>
        simp only [cond_true]
        have hd' : few d = true := by
          have := hf.few
          simp only [few, Nat.blt_eq] at this hb ⊢
          omega
        have e : (ca (.tmp d)).get f = fget f d := by
          show Ad.get (bif few d then Ad.t (Pa.of d) else .c (.f undef)) f = _
          rw [hd', cond_true]
          show vOr (T.gp (Pa.of d) f) = _
          rw [T.gp_of hd', ← fget_eq]
        show _ = isB ((ca (.tmp d)).get f) want
        rw [e]
        unfold isB
        generalize fget f d = v
        cases v with
        | f v => cases v <;> first | rfl | (rename_i b; cases b <;> cases want <;> rfl)
        | _ => rfl

/-! Integers. -/
noncomputable def kn (k : IntKind) : Nat := IntKind.casesOn k 0 1 2 3 4 5 6 7
noncomputable def kq (a b : IntKind) : Bool := Nat.beq (kn a) (kn b)
theorem kq_spec {a b : IntKind} (h : kq a b = true) : a = b := by cases a <;> cases b <;> first | rfl | cases h
noncomputable def pwF (k : IntKind) : Nat := IntKind.casesOn k 256 65536 4294967296 18446744073709551616 256 65536 4294967296 18446744073709551616
noncomputable def hfF (k : IntKind) : Nat := IntKind.casesOn k 128 32768 2147483648 9223372036854775808 256 65536 4294967296 18446744073709551616
/-- Numbers of a kind's own length, without and with a sign. -/
noncomputable def upF (k : IntKind) (m : Nat) : Int := Bool.rec (k.wrap (.ofNat m)) (.ofNat (Nat.mod m (pwF k))) (Nat.beq (pwF k) (hfF k))
noncomputable def dnF (k : IntKind) (m : Nat) : Int := Bool.rec (Bool.rec (k.wrap (.negSucc m)) (.negSucc m) (Nat.ble (Nat.succ m) (hfF k))) (.ofNat (Nat.sub (Nat.sub (pwF k) 1) (Nat.mod m (pwF k)))) (Nat.beq (pwF k) (hfF k))
noncomputable def wrapF (k : IntKind) (n : Int) : Int := Int.rec (fun m => Bool.rec (upF k m) (.ofNat m) (Nat.ble (Nat.succ m) (hfF k))) (fun m => dnF k m) n
theorem rec_if {α : Type} (b : Bool) (x y : α) : (Bool.rec x y b : α) = if b = true then y else x := by cases b <;> rfl
theorem pwF_eq (k : IntKind) : pwF k = 2 ^ k.bits := by cases k <;> rfl
theorem pwF_hf (k : IntKind) : hfF k = if k.signed = true then pwF k / 2 else pwF k := by cases k <;> rfl
theorem pw_even (k : IntKind) : pwF k % 2 = 0 ∧ 2 ≤ pwF k := by cases k <;> exact ⟨rfl, by decide⟩
theorem wrap_fit (k : IntKind) {n : Int} (h : if k.signed = true then -(pwF k / 2 : Nat) ≤ n ∧ n < (pwF k / 2 : Nat) else 0 ≤ n ∧ n < pwF k) : k.wrap n = n := by
  cases k <;> simp [IntKind.signed, pwF] at h <;> simp [IntKind.wrap, IntKind.bits, IntKind.signed] <;> omega
theorem wrap_uns (k : IntKind) (hs : k.signed = false) (n : Int) : k.wrap n = n % (pwF k : Int) := by
  cases k <;> simp [IntKind.signed] at hs <;> simp [IntKind.wrap, IntKind.bits, IntKind.signed, pwF]
theorem wrapF_eq (k : IntKind) (n : Int) : wrapF k n = k.wrap n := by
  obtain ⟨he, h2⟩ := pw_even k
  have hh := pwF_hf k
  have hb : (Nat.beq (pwF k) (hfF k) = true) ↔ k.signed = false := by cases k <;> simp [pwF, hfF, IntKind.signed]
  cases n with
  | ofNat m =>
    show (Bool.rec (upF k m) (.ofNat m) (Nat.ble (Nat.succ m) (hfF k)) : Int) = _
    rw [rec_if]
    split
    · rename_i hle
      have hle := ble_le hle
      refine (wrap_fit k ?_).symm
      rw [hh] at hle
      split at hle
      · rename_i hs; rw [if_pos hs]; exact ⟨by show _ ≤ (m : Int); omega, by show (m : Int) < _; omega⟩
      · rename_i hs; rw [if_neg hs]; exact ⟨by show _ ≤ (m : Int); omega, by show (m : Int) < _; omega⟩
    · show (Bool.rec (k.wrap (.ofNat m)) (.ofNat (Nat.mod m (pwF k))) (Nat.beq (pwF k) (hfF k)) : Int) = _
      rw [rec_if]
      split
      · rename_i hu
        rw [wrap_uns k (hb.1 hu)]
        show ((m % pwF k : Nat) : Int) = (m : Int) % _
        exact Int.natCast_emod ..
      · rfl
  | negSucc m =>
    show (Bool.rec (Bool.rec (k.wrap (.negSucc m)) (.negSucc m) (Nat.ble (Nat.succ m) (hfF k))) (.ofNat (Nat.sub (Nat.sub (pwF k) 1) (Nat.mod m (pwF k)))) (Nat.beq (pwF k) (hfF k)) : Int) = _
    rw [rec_if]
    split
    · rename_i hu
      rw [wrap_uns k (hb.1 hu)]
      have hlt : m % pwF k < pwF k := Nat.mod_lt _ (by omega)
      rw [Int.emod_negSucc]
      simp only [Int.natAbs_natCast]
      rw [Int.subNatNat_eq_coe]
      show ((pwF k - 1 - m % pwF k : Nat) : Int) = _
      omega
    · rename_i hu
      rw [rec_if]
      split
      · rename_i hle
        have hle := ble_le hle
        have hs : k.signed = true := by
          cases hs : k.signed with
          | true => rfl
          | false => exact absurd (hb.2 hs) hu
        refine (wrap_fit k ?_).symm
        rw [hh, if_pos hs] at hle
        rw [if_pos hs]
        constructor <;> omega
      · rfl

noncomputable def toN (k : IntKind) (x : Int) : Nat := Int.rec (fun m => Bool.rec (Nat.mod m (pwF k)) m (Nat.ble (Nat.succ m) (pwF k))) (fun m => Nat.sub (Nat.sub (pwF k) 1) (Nat.mod m (pwF k))) x
theorem toN_eq (k : IntKind) (x : Int) : (BitVec.ofInt k.bits x).toNat = toN k x := by
  rw [BitVec.toNat_ofInt]
  have hp : (0 : Nat) < 2 ^ k.bits := Nat.two_pow_pos _
  cases x with
  | ofNat m =>
    show _ = (Bool.rec (Nat.mod m (pwF k)) m (Nat.ble (Nat.succ m) (pwF k)) : Nat)
    rw [rec_if, pwF_eq]
    have e : ((Int.ofNat m) % ((2 ^ k.bits : Nat) : Int)).toNat = m % 2 ^ k.bits := by
      show ((m : Int) % ((2 ^ k.bits : Nat) : Int)).toNat = _
      rw [← Int.natCast_emod, Int.toNat_natCast]
    rw [e]
    split
    · rename_i h; exact Nat.mod_eq_of_lt (ble_le h)
    · rfl
  | negSucc m =>
    show _ = Nat.sub (Nat.sub (pwF k) 1) (Nat.mod m (pwF k))
    rw [pwF_eq]
    show _ = 2 ^ k.bits - 1 - m % 2 ^ k.bits
    generalize 2 ^ k.bits = p at hp
    rw [Int.emod_negSucc]
    have h1 : m % p < p := Nat.mod_lt _ hp
    simp only [Int.natAbs_natCast]
    rw [Int.subNatNat_eq_coe]
    omega
abbrev IQ := IntKind → Int → IntKind → Int → Option Value
noncomputable def addF (x y : Int) : Int := Int.rec (fun a => Int.rec (fun b => .ofNat (Nat.add a b)) (fun _ => x + y) y) (fun _ => x + y) x
noncomputable def subF (x y : Int) : Int := Int.rec (fun a => Int.rec (fun b => Bool.rec (x - y) (.ofNat (Nat.sub a b)) (Nat.ble b a)) (fun _ => x - y) y) (fun _ => x - y) x
noncomputable def mulF (x y : Int) : Int := Int.rec (fun a => Int.rec (fun b => .ofNat (Nat.mul a b)) (fun _ => x * y) y) (fun _ => x * y) x
noncomputable def eqF (x y : Int) : Bool := Int.rec (fun a => Int.rec (fun b => Nat.beq a b) (fun _ => false) y) (fun a => Int.rec (fun _ => false) (fun b => Nat.beq a b) y) x
noncomputable def ltF (x y : Int) : Bool := Int.rec (fun a => Int.rec (fun b => Nat.ble (Nat.succ a) b) (fun _ => false) y) (fun a => Int.rec (fun _ => true) (fun b => Nat.ble (Nat.succ b) a) y) x
theorem addF_eq (x y : Int) : addF x y = x + y := by cases x <;> cases y <;> rfl
theorem subF_eq (x y : Int) : subF x y = x - y := by
  cases x <;> cases y <;> try rfl
  rename_i a b
  show (Bool.rec (Int.ofNat a - Int.ofNat b) (.ofNat (Nat.sub a b)) (Nat.ble b a) : Int) = _
  rw [rec_if]
  split
  · rename_i h
    have := ble_le h
    show ((a - b : Nat) : Int) = (a : Int) - (b : Int)
    omega
  · rfl
theorem mulF_eq (x y : Int) : mulF x y = x * y := by cases x <;> cases y <;> rfl
theorem eqF_eq (x y : Int) : eqF x y = (x == y) := by rw [← intEq_eq]; cases x <;> cases y <;> rfl
theorem ltF_eq (x y : Int) : ltF x y = decide (x < y) := by rw [← ltI_eq]; cases x <;> cases y <;> rfl
noncomputable def bitsQ (g : Nat → Nat → Nat) (k : IntKind) (a : Int) (k' : IntKind) (b : Int) : Option Value := Bool.rec none (some (.int k (wrapF k (.ofNat (g (toN k a) (toN k b)))))) (kq k k')
noncomputable def arQ (g : Int → Int → Int) (k : IntKind) (a : Int) (k' : IntKind) (b : Int) : Option Value := Bool.rec none (some (.int k (wrapF k (g a b)))) (kq k k')
noncomputable def cmQ (g : Int → Int → Bool) (k : IntKind) (a : Int) (k' : IntKind) (b : Int) : Option Value := Bool.rec none (some (.bool (g a b))) (kq k k')
noncomputable def shlQ (k : IntKind) (a : Int) (_ : IntKind) (b : Int) : Option Value := Int.rec (fun s => some (.int k (wrapF k (mulF a (.ofNat (Nat.pow 2 (Nat.min s k.bits))))))) (fun _ => none) b
noncomputable def shrQ (k : IntKind) (a : Int) (_ : IntKind) (b : Int) : Option Value := Int.rec (fun s => Int.rec (fun m => some (.int k (.ofNat (Nat.div m (Nat.pow 2 (Nat.min s k.bits)))))) (fun _ => some (.int k (a.fdiv (2 ^ Nat.min s k.bits)))) a) (fun _ => none) b
noncomputable def neF (a b : Int) : Bool := Bool.rec true false (eqF a b)
noncomputable def leF (a b : Int) : Bool := Bool.rec true false (ltF b a)
noncomputable def gtF (a b : Int) : Bool := ltF b a
noncomputable def geF (a b : Int) : Bool := Bool.rec true false (ltF a b)
noncomputable def noQ : IQ := fun _ _ _ _ => none
noncomputable def opQ (op : BinOp) : IQ := match op with
  | .shl => shlQ
  | .shr => shrQ
  | .add => arQ addF
  | .sub => arQ subF
  | .mul => arQ mulF
  | .and => bitsQ Nat.land
  | .or => bitsQ Nat.lor
  | .xor => bitsQ Nat.xor
  | .eql => cmQ eqF
  | .neq => cmQ neF
  | .lss => cmQ ltF
  | .leq => cmQ leF
  | .gtr => cmQ gtF
  | .geq => cmQ geF
  | _ => noQ
theorem not_rec (b : Bool) : (Bool.rec true false b : Bool) = !b := by cases b <;> rfl
theorem opQ_run {P : Program} {op : BinOp} {k k' : IntKind} {a b : Int} {v : Value} (h : opQ op k a k' b = some v) (t : TypeId) (w : World) : (binOp op t (.int k a) (.int k' b)).run P w = .ok v w := by
  have ar : ∀ {g : Int → Int → Int}, arQ g k a k' b = some v → k = k' ∧ v = .int k (k.wrap (g a b)) := fun {g} h => by
    unfold arQ at h
    rw [rec_if, wrapF_eq] at h
    split at h
    · rename_i hk; cases h; exact ⟨kq_spec hk, rfl⟩
    · cases h
  have cm : ∀ {g : Int → Int → Bool}, cmQ g k a k' b = some v → k = k' ∧ v = .bool (g a b) := fun {g} h => by
    unfold cmQ at h
    rw [rec_if] at h
    split at h
    · rename_i hk; cases h; exact ⟨kq_spec hk, rfl⟩
    · cases h
  have bt : ∀ {g : Nat → Nat → Nat}, bitsQ g k a k' b = some v → k = k' ∧ v = .int k (k.wrap (Int.ofNat (g (BitVec.ofInt k.bits a).toNat (BitVec.ofInt k.bits b).toNat))) := fun {g} h => by
    unfold bitsQ at h
    rw [rec_if, wrapF_eq] at h
    split at h
    · rename_i hk; cases h; exact ⟨kq_spec hk, by rw [toN_eq, toN_eq]⟩
    · cases h
  cases op <;> simp only [opQ] at h
  case add => obtain ⟨rfl, rfl⟩ := ar h; rw [addF_eq]; simp [binOp, Op.intArith]
  case sub => obtain ⟨rfl, rfl⟩ := ar h; rw [subF_eq]; simp [binOp, Op.intArith]
  case mul => obtain ⟨rfl, rfl⟩ := ar h; rw [mulF_eq]; simp [binOp, Op.intArith]
  case and =>
    obtain ⟨rfl, rfl⟩ := bt h
    simp only [binOp, Op.intBits]
    rw [if_neg (by simp)]
    show Result.ok (Value.int k (k.wrap ((BitVec.ofInt k.bits a &&& BitVec.ofInt k.bits b).toNat : Int))) w = _
    rw [BitVec.toNat_and]
    rfl
  case or =>
    obtain ⟨rfl, rfl⟩ := bt h
    simp only [binOp, Op.intBits]
    rw [if_neg (by simp)]
    show Result.ok (Value.int k (k.wrap ((BitVec.ofInt k.bits a ||| BitVec.ofInt k.bits b).toNat : Int))) w = _
    rw [BitVec.toNat_or]
    rfl
  case xor =>
    obtain ⟨rfl, rfl⟩ := bt h
    simp only [binOp, Op.intBits]
    rw [if_neg (by simp)]
    show Result.ok (Value.int k (k.wrap ((BitVec.ofInt k.bits a ^^^ BitVec.ofInt k.bits b).toNat : Int))) w = _
    rw [BitVec.toNat_xor]
    rfl
  case eql => obtain ⟨rfl, rfl⟩ := cm h; rw [eqF_eq]; simp [binOp, Op.intCmp]
  case neq => obtain ⟨rfl, rfl⟩ := cm h; unfold neF; rw [not_rec, eqF_eq]; simp [binOp, Op.intCmp, bne]
  case lss => obtain ⟨rfl, rfl⟩ := cm h; rw [ltF_eq]; simp [binOp, Op.intCmp]
  case leq => obtain ⟨rfl, rfl⟩ := cm h; unfold leF; rw [not_rec, ltF_eq, ← ltI_eq, leI_eq]; simp [binOp, Op.intCmp]
  case gtr => obtain ⟨rfl, rfl⟩ := cm h; unfold gtF; rw [ltF_eq]; simp [binOp, Op.intCmp]
  case geq => obtain ⟨rfl, rfl⟩ := cm h; unfold geF; rw [not_rec, ltF_eq, ← ltI_eq, leI_eq]; simp [binOp, Op.intCmp]
  case shl =>
    cases b with
    | ofNat s =>
      have h' : some (Value.int k (wrapF k (mulF a (.ofNat (2 ^ Nat.min s k.bits))))) = some v := h
      cases h'
      rw [wrapF_eq, mulF_eq]
      simp only [binOp, Op.shift]
      rw [if_neg (by simp)]
      simp
    | negSucc s => cases h
  case shr =>
    cases b with
    | ofNat s =>
      cases a with
      | ofNat m =>
        have h' : some (Value.int k (.ofNat (m / 2 ^ Nat.min s k.bits))) = some v := h
        exact binQ_run (op := .shr) (k' := k') (a := .ofNat m) (b := .ofNat s) h' t w
      | negSucc m =>
        have h' : some (Value.int k ((Int.negSucc m).fdiv (2 ^ Nat.min s k.bits))) = some v := h
        cases h'
        simp only [binOp, Op.shift]
        rw [if_neg (by simp)]
        rfl
    | negSucc s => cases h
  all_goals exact absurd h (by simp [noQ])

/-! Which kind of value? -/
noncomputable def onF {R : Type} (x : V) (k : Value → R) (z : R) : R :=
  V.casesOn (motive_1 := fun _ => R) x k (fun _ _ _ => z) (fun _ _ _ _ _ _ _ => z) (fun _ => z) (fun _ => z) (fun _ => z) (fun _ _ _ => z) (fun _ _ => z)
noncomputable def onP {R : Type} (x : V) (k : Nat → Nat → Nat → R) (z : R) : R :=
  V.casesOn (motive_1 := fun _ => R) x (fun _ => z) k (fun _ _ _ _ _ _ _ => z) (fun _ => z) (fun _ => z) (fun _ => z) (fun _ _ _ => z) (fun _ _ => z)
noncomputable def onS {R : Type} (x : V) (k : Nat → Nat → Nat → Nat → Nat → Option Nat → Nat → R) (z : R) : R :=
  V.casesOn (motive_1 := fun _ => R) x (fun _ => z) (fun _ _ _ => z) k (fun _ => z) (fun _ => z) (fun _ => z) (fun _ _ _ => z) (fun _ _ => z)
noncomputable def valI {R : Type} (v : Value) (k : IntKind → Int → R) (z : R) : R :=
  Value.casesOn (motive_1 := fun _ => R) v (fun _ => z) k (fun _ _ => z) (fun _ _ _ => z) (fun _ => z) (fun _ => z) (fun _ _ _ => z) (fun _ => z) (fun _ => z) (fun _ _ _ => z) z (fun _ _ => z) z (fun _ => z) (fun _ => z)
noncomputable def valB {R : Type} (v : Value) (k : Bool → R) (z : R) : R :=
  Value.casesOn (motive_1 := fun _ => R) v k (fun _ _ => z) (fun _ _ => z) (fun _ _ _ => z) (fun _ => z) (fun _ => z) (fun _ _ _ => z) (fun _ => z) (fun _ => z) (fun _ _ _ => z) z (fun _ _ => z) z (fun _ => z) (fun _ => z)
noncomputable def onI {R : Type} (x : V) (k : IntKind → Int → R) (z : R) : R := onF x (fun v => valI v k z) z
noncomputable def onB {R : Type} (x : V) (k : Bool → R) (z : R) : R := onF x (fun v => valB v k z) z
theorem onP_cases {R : Type} (x : V) (k : Nat → Nat → Nat → R) (z : R) : (∃ i j o, x = .p i j o ∧ onP x k z = k i j o) ∨ onP x k z = z := by
  cases x <;> first | exact .inl ⟨_, _, _, rfl, rfl⟩ | exact .inr rfl
theorem onS_cases {R : Type} (x : V) (k : Nat → Nat → Nat → Nat → Nat → Option Nat → Nat → R) (z : R) : (∃ i j o n b c s, x = .s i j o n b c s ∧ onS x k z = k i j o n b c s) ∨ onS x k z = z := by
  cases x <;> first | exact .inl ⟨_, _, _, _, _, _, _, rfl, rfl⟩ | exact .inr rfl
theorem onI_cases {R : Type} (x : V) (k : IntKind → Int → R) (z : R) : (∃ d n, x = .f (.int d n) ∧ onI x k z = k d n) ∨ onI x k z = z := by
  cases x with
  | f v => cases v <;> first | exact .inl ⟨_, _, rfl, rfl⟩ | exact .inr rfl
  | _ => exact .inr rfl
theorem onB_cases {R : Type} (x : V) (k : Bool → R) (z : R) : (∃ b, x = .f (.bool b) ∧ onB x k z = k b) ∨ onB x k z = z := by
  cases x with
  | f v => cases v <;> first | exact .inl ⟨_, rfl, rfl⟩ | exact .inr rfl
  | _ => exact .inr rfl
end Go.Ax
