/- A closed call that the kernel has run, said of every world. -/
import Derived.Test.YtjlikmhhaecgnaaGreatDoorBxE
namespace Go.Ax
set_option linter.unusedVariables false
open Go.Sx
section
variable {P : Program}
/-- A closed call, run by the kernel: in every world it returns this value, and what was there stays as it was. -/
theorem closedCall {orc : OrcF} (ho : OrcOK P orc) {cf fuel : Nat} {fid : FuncId} {v : Value} (h : saysR (callB P orc cf fuel fid (([] : List Value).map V.f) .e 0) v = true) (w : World) :
    Calls P fid #[] w fun e w' => e = .returned v ∧ w'.env = w.env ∧ ∀ j, j < w.heap.size → w'.heap[j]? = w.heap[j]? := by
  unfold saysR at h
  split at h
  · rename_i u h1 nx1 hc
    refine (callB_run ho cf fuel _ _ _ _ _ _ _ hc ⟨w.env, frag w⟩ _ [] w (VRs.flat []) (start_HR w)).mono ?_
    rintro e w' ⟨ρ', u', rfl, _, hv, hh'⟩
    refine ⟨by rw [(show u' = u from hv).trans (valEqA_spec h)], hh'.env, fun j hj => ?_⟩
    have hs : w.heap[j]? = some w.heap[j] := Array.getElem?_eq_getElem hj
    rw [hs]
    exact hh'.old j _ hs
  · cases h
theorem kept_of {w w' : World} (he : w'.env = w.env) (hk : ∀ j, j < w.heap.size → w'.heap[j]? = w.heap[j]?) (may : MemPlace → Prop) : w.keptBut w' may := by
  have e1 : w'.os = w.os := congrArg Env.os he
  have e2 : w'.output = w.output := congrArg Env.out he
  refine ⟨e1, e2, fun i hi => ?_⟩
  rw [hk i hi]
  exact (World.keptBut_refl w may).2.2 i hi
end
end Go.Ax
