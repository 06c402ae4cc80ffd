/- Operations under names: what touches one value or one place. -/
import Derived.Test.YtjlikmhhaecgnaaGreatDoorAxC
namespace Go.Ax
set_option linter.unusedVariables false
open Go.Sx

abbrev F := T V
noncomputable def fget (f : F) (t : Nat) : V := match f.get t with | some v => v | none => .f undef
noncomputable def av (f : F) : Operand → V
  | .tmp t => fget f t
  | .const v => .f v
  | .global g => .f (.pointer (some ⟨g, 0, none⟩))
  | .func g => .f (.func (.func g) #[] #[])
structure FR (ρ : Rho) (n : Nat) (f : F) (a : Act) : Prop where
  d : a.defers = []
  s : a.tmps.size = n
  few : few n = true
  t : ∀ t, VR ρ (fget f t) (a.tmps.getD t undef)
theorem FR.mono {ρ ρ' : Rho} {n : Nat} {f : F} {a : Act} (h : FR ρ n f a) (hr : ρ.le ρ') : FR ρ' n f a := ⟨h.d, h.s, h.few, fun t => (h.t t).mono hr⟩
theorem FR.av {ρ : Rho} {n : Nat} {f : F} {a : Act} (h : FR ρ n f a) (x : Operand) : VR ρ (av f x) (a.eval x) := by
  cases x with
  | tmp t => exact h.t t
  | _ => rfl
noncomputable def fput (n : Nat) (f : F) (d : Option Nat) (v : V) : F :=
  match d with
  | none => f
  | some d => bif Nat.blt d n then f.set d v else f
theorem FR.put {ρ : Rho} {n : Nat} {f : F} {a : Act} (h : FR ρ n f a) (d : Option Nat) {v : V} {u : Value} (hv : VR ρ v u) : FR ρ n (fput n f d v) (a.put d u) := by
  cases d with
  | none => exact h
  | some d =>
    refine ⟨h.d, by simp [Act.put, h.s], h.few, fun t => ?_⟩
    have ht := h.t t
    simp only [Act.put, fput]
    by_cases hd : d < n
    · have hb : Nat.blt d n = true := by simpa [Nat.blt_eq] using hd
      have hfd : Ax.few d = true := by
        have := h.few
        simp only [Ax.few, Nat.blt_eq] at this ⊢
        omega
      rw [hb, cond_true]
      unfold fget
      rw [T.get_set hfd]
      by_cases htd : t = d
      · subst htd
        simp [h.s, hd, hv]
      · rw [if_neg htd]
        have := ht
        unfold fget at this
        simpa [Array.getElem?_setIfInBounds_ne (Ne.symm htd)] using this
    · have hb : Nat.blt d n = false := by
        cases hb : Nat.blt d n with
        | false => rfl
        | true => exact absurd (by simpa [Nat.blt_eq] using hb) hd
      rw [hb, cond_false]
      have : a.tmps.setIfInBounds d u = a.tmps := by simp [Array.setIfInBounds, h.s, hd]
      rw [this]
      exact ht

/-- What an operation came to. -/
def OpOK (Z : Base) (ρ : Rho) (res : Result Next) (v : V) (h' : H) : Prop :=
  ∃ ρ' w', ρ.le ρ' ∧ HR Z ρ' h' w' ∧ ((∃ u, res = .ok (.value u) w' ∧ VR ρ' v u) ∨ (res = .ok .skip w' ∧ v = .f undef))
theorem OpOK.same {Z : Base} {ρ : Rho} {h : H} {w : World} (hh : HR Z ρ h w) {res : Result Next} {v : V} {u : Value} (hr : res = .ok (.value u) w) (hv : VR ρ v u) : OpOK Z ρ res v h :=
  ⟨ρ, w, Rho.le.refl ρ, hh, .inl ⟨u, hr, hv⟩⟩

/-! All operands say all by themselves. -/
noncomputable def isF (f : F) (x : Operand) : Bool := match av f x with | .f _ => true | _ => false
noncomputable def fenv (f : F) (x : Operand) : Value := match av f x with | .f v => v | _ => undef
noncomputable def allB {α : Type} (p : α → Bool) (l : List α) : Bool := List.rec true (fun x _ ih => bif p x then ih else false) l
theorem allB_mem {α : Type} {p : α → Bool} {l : List α} (h : allB p l = true) : ∀ x ∈ l, p x = true := by
  induction l with
  | nil => intro x hx; cases hx
  | cons y l ih =>
    have h' : (bif p y then allB p l else false) = true := h
    cases hp : p y with
    | false => rw [hp] at h'; cases h'
    | true =>
      rw [hp, cond_true] at h'
      intro x hx
      rcases List.mem_cons.1 hx with rfl | hx
      · exact hp
      · exact ih h' x hx
def isSelect : Op → Bool | .select .. => true | _ => false
noncomputable def genA (P : Program) (f : F) (o : Oper) : Option Value :=
  bif allB (isF f) o.op.operands.toList && !isSelect o.op then
    match peel P (execOp (fenv f) o) with
    | some (.value v) => some v
    | _ => none
  else none
section
variable {P : Program} {Z : Base} {ρ : Rho} {h : H} {w : World} {n : Nat} {f : F} {a : Act}
theorem isF_eval (hf : FR ρ n f a) {x : Operand} (hx : isF f x = true) : fenv f x = a.eval x := by
  have := hf.av x
  unfold isF at hx
  unfold fenv
  split at hx
  · rename_i v hv; rw [hv] at this; exact this.symm
  · cases hx
theorem genA_run (hf : FR ρ n f a) {o : Oper} {v : Value} (hg : genA P f o = some v) (w : World) : (execOp a.eval o).run P w = .ok (.value v) w := by
  unfold genA at hg
  cases hb : (allB (isF f) o.op.operands.toList && !isSelect o.op) with
  | false => rw [hb] at hg; cases hg
  | true =>
    rw [hb, cond_true] at hg
    simp only [Bool.and_eq_true, Bool.not_eq_true'] at hb
    split at hg
    · rename_i v' hp
      cases hg
      have e : execOp (fenv f) o = execOp a.eval o := execOp_congr o (fun cs b he => by rw [he] at hb; exact absurd hb.2 (by simp [isSelect])) fun x hx => isF_eval hf (allB_mem hb.1 x (by simpa using hx))
      rw [← e]
      exact peel_run hp w
    · cases hg
theorem genA_ok (hh : HR Z ρ h w) (hf : FR ρ n f a) {o : Oper} {v : Value} (hg : genA P f o = some v) : OpOK Z ρ ((execOp a.eval o).run P w) (.f v) h :=
  OpOK.same hh (genA_run hf hg w) rfl

/-! Loads and stores. -/
noncomputable def isAggA (P : Program) (t : TypeId) : Option Bool :=
  match P.underlying t with
  | some (.struct _) => some true
  | some (.array _ _) => some true
  | some _ => some false
  | none => none
theorem isAggA_run {t : TypeId} {b : Bool} (h : isAggA P t = some b) (w : World) : (isAgg t).run P w = .ok b w := by
  unfold isAggA at h
  split at h
  · rename_i hu; cases h; simp [isAgg, run_underlying hu]
  · rename_i hu; cases h; simp [isAgg, run_underlying hu]
  · rename_i d h1 h2 hu
    cases h
    simp only [isAgg, Sem.run_bind, run_underlying hu, Result.andThen_ok]
    cases d <;> first | rfl | exact absurd hu (h1 _) | exact absurd hu (h2 _ _)
  · cases h
noncomputable def sizeA (P : Program) (t : TypeId) : Option Nat := match P.info? t with | some i => some i.size | none => none
theorem sizeA_run {t : TypeId} {s : Nat} (h : sizeA P t = some s) (w : World) : (sizeOf t).run P w = .ok s w := by
  unfold sizeA at h
  split at h
  · rename_i i hi; cases h; simp [sizeOf, typeInfo, hi]
  · cases h
/-- What lies at a place. -/
noncomputable def ldA (P : Program) (h : H) (t : TypeId) (x : V) : Option V :=
  match x with
  | .p i k off =>
    match h.get i with
    | some (.c cells ver _) =>
      bif Nat.beq k ver then
        match isAggA P t with
        | some true => (match sizeA P t with
          | some s => bif Nat.ble (off + s) (llen cells) then some (mkA (ltake (ldrop cells off) s)) else none
          | none => none)
        | some false => lget cells off
        | none => none
      else none
    | _ => none
  | _ => none
theorem ldA_run (hh : HR Z ρ h w) {t : TypeId} {x v : V} {u : Value} (hx : VR ρ x u) (hl : ldA P h t x = some v) : ∃ y, (Instr.loadAt t u).run P w = .ok y w ∧ VR ρ v y := by
  unfold ldA at hl
  split at hl
  · rename_i i k off
    obtain ⟨r, hr, hlo, rfl⟩ := hx
    split at hl
    · rename_i cells ver min ho
      cases hk : Nat.beq k ver with
      | false => rw [hk] at hl; cases hl
      | true =>
      rw [hk, cond_true] at hl
      have := beq_eq hk
      subst this
      have hmv := (hh.obj i _ ho).1
      obtain ⟨r', hr', hver⟩ := (hh.obj i _ ho).2 k hmv (Nat.le_refl _)
      rw [hr] at hr'
      cases hr'
      have hL : r.L = cells.length := hver.last (Nat.beq_refl k)
      split at hl
      · rename_i ha
        split at hl
        · rename_i s hs
          cases hb : Nat.ble (off + s) (llen cells) with
          | false => rw [hb] at hl; cases hl
          | true =>
          rw [hb, cond_true] at hl
          cases hl
          have hle := ble_le hb
          rw [llen_eq] at hle
          obtain ⟨us, hv, hul, hc⟩ := hh.cells ho hmv (Nat.le_refl k) hr hlo (n := s) (by omega)
          refine ⟨.agg us.toArray, ?_, by rw [ltake_eq, ldrop_eq]; exact mkA_rel hv⟩
          simp only [Instr.loadAt, Instr.sureAddr, loadVar, Sem.run_bind, Sem.run_pure, Result.andThen_ok, isAggA_run ha, if_true]
          simp [sizeA_run hs, run_loadCells hul hc]
        · cases hl
      · rename_i ha
        rw [lget_eq] at hl
        have hlt : off < cells.length := (List.getElem?_eq_some_iff.1 hl).1
        obtain ⟨y, hy, hv⟩ := hh.cell ho hmv (Nat.le_refl k) hr hlo (by omega) hl
        refine ⟨y, ?_, hv⟩
        simp only [Instr.loadAt, Instr.sureAddr, loadVar, Sem.run_bind, Sem.run_pure, Result.andThen_ok, isAggA_run ha]
        simp [run_load, hy]
      · cases hl
    · cases hl
  · cases hl
noncomputable def stA (P : Program) (h : H) (t : TypeId) (x v : V) : Option H :=
  match x with
  | .p i k off =>
    match h.get i with
    | some (.c cells ver _) =>
      match sizeA P t with
      | some s => bif Nat.beq k ver && few i && Nat.beq (llen v.cells) s && Nat.ble (off + s) (llen cells) && vones v.cells then some (h.set i (.c (lput cells off v.cells) ver ver)) else none
      | none => none
    | _ => none
  | _ => none
theorem stA_run (hh : HR Z ρ h w) {t : TypeId} {x v : V} {u y : Value} {h' : H} (hx : VR ρ x u) (hv : VR ρ v y) (hs : stA P h t x v = some h') : ∃ w', (Instr.storeAt t u y).run P w = .ok () w' ∧ HR Z ρ h' w' := by
  unfold stA at hs
  split at hs
  · rename_i i k off
    obtain ⟨r, hr, hlo, rfl⟩ := hx
    split at hs
    · rename_i cells ver min ho
      split at hs
      · rename_i s hsz
        cases hb : (Nat.beq k ver && few i && Nat.beq (llen v.cells) s && Nat.ble (off + s) (llen cells) && vones v.cells) with
        | false => rw [hb] at hs; cases hs
        | true =>
        rw [hb, cond_true] at hs
        cases hs
        simp only [Bool.and_eq_true] at hb
        obtain ⟨⟨⟨⟨h1, h2⟩, h3⟩, h4⟩, h5⟩ := hb
        have e1 := beq_eq h1
        subst e1
        have e3 := beq_eq h3
        rw [llen_eq] at e3
        have e4 := ble_le h4
        rw [llen_eq] at e4
        have hyc := hv.cells
        obtain ⟨w', hrun, hh'⟩ := hh.store (P := P) h2 ho hr hlo (by omega) hyc h5
        refine ⟨w', ?_, hh'⟩
        have hne : ¬ (y.cells.size ≠ s) := by
          have := hyc.len
          simp only [Array.length_toList] at this
          omega
        simp only [Instr.storeAt, Instr.sureAddr, storeVar, Sem.run_bind, Sem.run_pure, Result.andThen_ok, sizeA_run hsz, if_neg hne]
        exact hrun
      · cases hs
    · cases hs
  · cases hs

/-! New places. -/
noncomputable def newA (h : H) (nm : Nat) (cells : List V) : Option H := match h.get nm with | none => (bif few nm then some (h.set nm (.c cells 0 0)) else none) | some _ => none
theorem newA_run (hh : HR Z ρ h w) {nm : Nat} {cells : List V} {us : List Value} {h' : H} (hr : VRs ρ cells us) (hn : newA h nm cells = some h') (ty : TypeId) :
    ∃ ρ', ρ.le ρ' ∧ ρ' nm 0 = some ⟨w.heap.size, 0, 0, us.length, us.length⟩ ∧ HR Z ρ' h' { w with heap := w.heap.push (.cells (List.toArray us) ty) } := by
  unfold newA at hn
  split at hn
  · rename_i hnone
    cases hf : few nm with
    | false => rw [hf] at hn; cases hn
    | true =>
      rw [hf, cond_true] at hn
      cases hn
      obtain ⟨hle, hh'⟩ := hh.alloc hf hnone [] hr ty
      refine ⟨_, hle, Rho.add_self _ _ _ _, ?_⟩
      rw [List.append_nil] at hh'
      exact hh'
  · cases hn
theorem newVar_run (t : TypeId) (v : Value) (w : World) : (newVar t v).run P w = .ok ⟨w.heap.size, 0, none⟩ { w with heap := w.heap.push (.cells v.cells t) } := rfl
noncomputable def zeroA (P : Program) (t : TypeId) : Option Value := match P.info? t with | some i => i.zero | none => none
theorem zeroA_run {t : TypeId} {z : Value} (h : zeroA P t = some z) (w : World) : (zeroValue t).run P w = .ok z w := by
  unfold zeroA at h
  split at h
  · rename_i i hi; simp [zeroValue, typeInfo, hi, h]
  · cases h

noncomputable def fieldOf (P : Program) (s : TypeId) (j : Nat) : Option Field := match P.underlying s with | some (.struct fs) => fs[j]? | _ => none
theorem fieldOf_spec {s : TypeId} {j : Nat} {fd : Field} (h : fieldOf P s j = some fd) : ∃ fs, P.underlying s = some (.struct fs) ∧ fs[j]? = some fd := by
  unfold fieldOf at h
  split at h
  · rename_i fs hu; exact ⟨fs, hu, h⟩
  · cases h
/-- Part of a value. -/
noncomputable def partA (P : Program) (t : TypeId) (xs : List V) (off : Nat) : Option V :=
  match isAggA P t with
  | some true => (match sizeA P t with | some s => some (mkA (ltake (ldrop xs off) s)) | none => none)
  | some false => lget xs off
  | none => none
theorem partA_run {t : TypeId} {xs : List V} {ys : List Value} (hr : VRs ρ xs ys) {off : Nat} {v : V} (h : partA P t xs off = some v) : ∃ u, (∀ w : World, (part t (List.toArray ys) off).run P w = .ok u w) ∧ VR ρ v u := by
  unfold partA at h
  split at h
  · rename_i ha
    split at h
    · rename_i s hs
      cases h
      refine ⟨.agg (List.toArray ((ys.drop off).take s)), fun w => ?_, by rw [ltake_eq, ldrop_eq]; exact mkA_rel ((hr.drop off).take s)⟩
      simp only [part, Sem.run_bind, isAggA_run ha, Result.andThen_ok, if_true, sizeA_run hs, Sem.run_pure]
      congr 2
      apply Array.ext'
      simp [List.take_drop]
    · cases h
  · rename_i ha
    rw [lget_eq] at h
    obtain ⟨u, hu, hv⟩ := hr.get _ _ h
    refine ⟨u, fun w => ?_, hv⟩
    simp only [part, Sem.run_bind, isAggA_run ha, Result.andThen_ok]
    simp [hu]
  · cases h
end
end Go.Ax
