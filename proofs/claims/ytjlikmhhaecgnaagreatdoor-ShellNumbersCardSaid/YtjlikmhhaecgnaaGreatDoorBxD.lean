/- What is known of functions ahead: calls that hang on plain values alone; several such together. -/
import Derived.Test.YtjlikmhhaecgnaaGreatDoorBxG
namespace Go.Ax
set_option linter.unusedVariables false
open Go.Sx
section
variable {P : Program} {Z : Base}
theorem HR.keep {ρ : Rho} {h : H} {w w' : World} (hh : HR Z ρ h w) (he : w'.env = w.env) (hk : ∀ j, j < w.heap.size → w'.heap[j]? = w.heap[j]?) : HR Z ρ h w' :=
  ⟨he.trans hh.env, fun k o hk' => (hk k (hh.base_lt (by rw [hk']; simp))).trans (hh.old k o hk'), fun i o ho => (hh.obj i o ho).mono (Rho.le.refl ρ) fun k r h1 h2 hr => hk _ (hh.lt ⟨o, ho, h1, h2⟩ hr), hh.sep, hh.al, hh.new, hh.dom⟩
noncomputable def vsEq (a : List Value) : List Value → Bool := List.rec (fun b => match b with | [] => true | _ => false) (fun x _ ih b => match b with | [] => false | y :: ys => bif valEq x y then ih ys else false) a
theorem vsEq_spec : ∀ {a b : List Value}, vsEq a b = true → a = b
  | [], [], _ => rfl
  | [], _ :: _, h => by cases h
  | _ :: _, [], h => by cases h
  | x :: xs, y :: ys, h => by
    have h' : (bif valEq x y then vsEq xs ys else false) = true := h
    cases hb : valEq x y with
    | false => rw [hb] at h'; cases h'
    | true =>
      rw [hb, cond_true] at h'
      rw [vsEq_spec h', valEq_spec hb]
noncomputable def valEqA (a b : Value) : Bool := match a, b with | .agg x, .agg y => vsEq x.toList y.toList | .tuple x, .tuple y => vsEq x.toList y.toList | a, b => valEq a b
theorem valEqA_spec {a b : Value} (h : valEqA a b = true) : a = b := by
  unfold valEqA at h
  split at h
  · congr 1; exact Array.ext' (vsEq_spec h)
  · congr 1; exact Array.ext' (vsEq_spec h)
  · exact valEq_spec h
noncomputable def saysR (r : Option (V × H × Nat)) (v : Value) : Bool := match r with | some (.f u, _, _) => valEqA u v | _ => false
theorem start_HR (w : World) : HR ⟨w.env, frag w⟩ (fun _ _ => none) .e w :=
  ⟨rfl, Sub.refl _, fun i o hi => (by cases hi), fun i k i' k' r r' _ _ hr => (by cases hr), fun i k k' r r' _ _ hr => (by cases hr), fun i k r _ hr => (by cases hr), fun i k r hr => (by cases hr)⟩

/-- A call that hangs on plain values, and gives a plain value. -/
noncomputable def flatO (fid0 : FuncId) (vs : List Value) (res : Value) : OrcF := fun fid args h nx => bif Nat.beq fid fid0 then (match flats args with | some us => bif vsEq us vs then some (some (.f res, h, nx)) else none | none => none) else none
theorem flatO_ok {orc : OrcF} (ho : OrcOK P orc) {cf fuel : Nat} {fid0 : FuncId} {vs : List Value} {res : Value} (h : saysR (callB P orc cf fuel fid0 (vs.map V.f) .e 0) res = true) : OrcOK P (flatO fid0 vs res) := by
  intro fid args h0 nx v h' nx' he Z ρ us w hargs hh
  unfold flatO at he
  cases hb : Nat.beq fid fid0 with
  | false => rw [hb] at he; cases he
  | true =>
  rw [hb, cond_true] at he
  have := beq_eq hb
  subst this
  split at he
  · rename_i us' hfl
    cases hv : vsEq us' vs with
    | false => rw [hv] at he; cases he
    | true =>
    rw [hv, cond_true] at he
    simp only [Option.some.injEq, Prod.mk.injEq] at he
    obtain ⟨rfl, rfl, rfl⟩ := he
    have hus : us = vs := (VRs.flats hfl hargs).trans (vsEq_spec hv)
    subst hus
    unfold saysR at h
    split at h
    · rename_i u h1 nx1 hc
      refine (callB_run ho cf fuel _ _ _ _ _ _ _ hc ⟨w.env, frag w⟩ _ us w (VRs.flat us) (start_HR w)).mono ?_
      rintro e w' ⟨ρ', u', rfl, _, hv', hh'⟩
      refine ⟨ρ, u', rfl, Rho.le.refl ρ, (show u' = u from hv').trans (valEqA_spec h), hh.keep hh'.env fun j hj => ?_⟩
      have hs : w.heap[j]? = some w.heap[j] := Array.getElem?_eq_getElem hj
      rw [hs]
      exact hh'.old j _ hs
    · cases h
  · cases he
noncomputable def orO (a b : OrcF) : OrcF := fun fid args h nx => match a fid args h nx with | some r => some r | none => b fid args h nx
theorem orO_ok {a b : OrcF} (ha : OrcOK P a) (hb : OrcOK P b) : OrcOK P (orO a b) := by
  intro fid args h nx v h' nx' he
  unfold orO at he
  split at he
  · rename_i r hr
    exact ha fid args h nx v h' nx' (by rw [hr, ← he])
  · exact hb fid args h nx v h' nx' he
end
end Go.Ax
