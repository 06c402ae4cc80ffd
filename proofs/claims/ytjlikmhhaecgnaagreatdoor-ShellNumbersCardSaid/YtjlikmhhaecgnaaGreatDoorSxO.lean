/- Orders that Go leaves open: a load may be taken first if its cells are held until an operation that waits for it. -/
import Derived.OrdersHeld
namespace Go.Sx
set_option linter.unusedVariables false
section
variable {P : Program} {ops : Array Oper} {Q : Exit → Act → World → Prop} {md : Region.Mode}

/-- Cells that hold these values until that operation has come up. -/
def HS (held : List (Addr × Value × Nat)) (listed : Array Bool) (w : World) : Prop := ∀ e ∈ held, listed.getD e.2.2 false = false → w.cell? e.1 = some e.2.1

def wpAnyU (P : Program) (md : Region.Mode) (ops : Array Oper) (Q : Exit → Act → World → Prop) (held : List (Addr × Value × Nat)) : Nat → Array Bool → Act → World → Prop
  | 0, listed, a, w => Region.ready md ops listed = [] ∧ Q .normal a w
  | fuel + 1, listed, a, w =>
    (Region.ready md ops listed = [] → Q .normal a w) ∧
    ∀ i ∈ Region.ready md ops listed, wpOp P ops Q i (fun a' w' => HS held (listed.setIfInBounds i true) w' ∧ wpAnyU P md ops Q held fuel (listed.setIfInBounds i true) a' w') a w

theorem wpAny_of_U {held : List (Addr × Value × Nat)} : ∀ (fuel : Nat) (listed : Array Bool) (a : Act) (w : World), wpAnyU P md ops Q held fuel listed a w → wpAny P md ops Q fuel listed a w
  | 0, _, _, _, h => h
  | fuel + 1, _, _, _, h => ⟨h.1, fun i hi => wpOp_mono (fun a' w' h' => wpAny_of_U fuel _ a' w' h'.2) (h.2 i hi)⟩

/-- q waits for i. -/
def Waits (md : Region.Mode) (ops : Array Oper) (q i : Nat) : Prop := ∀ oq, ops[q]? = some oq → ∃ e ∈ oq.after, Region.binds md e = true ∧ e.on = i

theorem HS.set {held : List (Addr × Value × Nat)} {listed : Array Bool} {i : Nat} {w : World} (hq : ∀ e ∈ held, e.2.2 ≠ i) : HS held (listed.setIfInBounds i true) w ↔ HS held listed w := by
  constructor
  · intro h e he hl
    exact h e he (by rw [getD_set_ne false (Ne.symm (hq e he))]; exact hl)
  · intro h e he hl
    exact h e he (by rw [getD_set_ne false (Ne.symm (hq e he))] at hl; exact hl)

theorem wpAnyU_first {i : Nat} {oi : Oper} {v : Value} {held : List (Addr × Value × Nat)} {need : List (Addr × Value)} (hi : ops[i]? = some oi) (hsel : ∀ (j : Nat) (o : Oper) cs b, ops[j]? = some o → o.op ≠ .select cs b)
    (hQ : ∀ c a w, Q (.panic c) (a.put oi.dst v) w → Q (.panic c) a w) (hq : ∀ e ∈ held, e.2.2 ≠ i) :
    ∀ (fuel : Nat) (listed : Array Bool) (a : Act) (w : World),
      (∀ j oj, ops[j]? = some oj → j ≠ i → listed.getD j true = false → (∀ e ∈ oj.after, Region.binds md e = true → e.on ≠ i) → oi.apart ops oj = true) →
      i ∈ Region.ready md ops listed → YieldsIf P ops (fun w => ∀ p ∈ need, w.cell? p.1 = some p.2) oi v a →
      (∀ p ∈ need, ∃ q, (p.1, p.2, q) ∈ held ∧ listed.getD q false = false ∧ Waits md ops q i) → HS held listed w →
      wpAnyU P md ops Q held fuel (listed.setIfInBounds i true) (a.put oi.dst v) w → wpAnyU P md ops Q held (fuel + 1) listed a w := by
  intro fuel
  induction fuel with
  | zero =>
    intro listed a w _ hr hy hn hS H
    refine ⟨fun h => (by rw [h] at hr; cases hr), fun j hj => ?_⟩
    by_cases hji : j = i
    · subst hji
      exact hy.wpOp hi (fun p hp => by obtain ⟨q, h1, h2, _⟩ := hn p hp; exact hS _ h1 h2) ⟨(HS.set hq).2 hS, H⟩
    · have := ready_mono hj hji
      rw [H.1] at this
      cases this
  | succ fuel ih =>
    intro listed a w hfree hr hy hn hS H
    refine ⟨fun h => (by rw [h] at hr; cases hr), fun j hj => ?_⟩
    by_cases hji : j = i
    · subst hji
      exact hy.wpOp hi (fun p hp => by obtain ⟨q, h1, h2, _⟩ := hn p hp; exact hS _ h1 h2) ⟨(HS.set hq).2 hS, H⟩
    · have h1 := H.2 j (ready_mono hj hji)
      obtain ⟨hjun, oj, hoj, hall⟩ := mem_ready.1 hj
      have hnot : ∀ e ∈ oj.after, Region.binds md e = true → e.on ≠ i := fun e he hb heq => by
        have h1 := hall e he hb
        have h0 := (mem_ready.1 hr).1
        rw [heq] at h1
        rcases Nat.lt_or_ge i listed.size with h' | h'
        · simp [h'] at h0 h1; rw [h0] at h1; cases h1
        · simp [Array.getElem?_eq_none h'] at h1
      have h2 := wpOp_putIf hoj (hfree j oj hoj hji hjun hnot) (fun cs b => hsel i oi cs b hi) (fun cs b => hsel j oj cs b hoj) hQ hy h1
      have hfree' : ∀ k ok, ops[k]? = some ok → k ≠ i → (listed.setIfInBounds j true).getD k true = false →
          (∀ e ∈ ok.after, Region.binds md e = true → e.on ≠ i) → oi.apart ops ok = true := fun k ok hk hki hun hno => by
        refine hfree k ok hk hki ?_ hno
        by_cases hjk : j = k
        · subst hjk; exact hjun
        · rw [getD_set_ne true hjk] at hun; exact hun
      have hn' : ∀ p ∈ need, ∃ q, (p.1, p.2, q) ∈ held ∧ (listed.setIfInBounds j true).getD q false = false ∧ Waits md ops q i := fun p hp => by
        obtain ⟨q, h1, h2, h3⟩ := hn p hp
        refine ⟨q, h1, ?_, h3⟩
        by_cases hjq : j = q
        · subst hjq
          obtain ⟨e, he, hb, hon⟩ := h3 oj hoj
          exact absurd hon (hnot e he hb)
        · rw [getD_set_ne false hjq]; exact h2
      refine wpOp_mono (fun a' w' h3 => ?_) h2
      have hS' : HS held (listed.setIfInBounds j true) w' := by
        have := h3.2.1
        rw [Array.setIfInBounds_comm _ _ (Ne.symm hji)] at this
        exact (HS.set hq).1 this
      refine ⟨hS', ih (listed.setIfInBounds j true) a' w' hfree' (ready_mono hr (Ne.symm hji)) h3.1 hn' hS' ?_⟩
      rw [Array.setIfInBounds_comm _ _ hji]
      exact h3.2.2

theorem wpAnyU_take {i : Nat} {oi : Oper} {v : Value} {fuel : Nat} {listed : Array Bool} {a : Act} {w : World} {held : List (Addr × Value × Nat)} {need : List (Addr × Value)} (hi : ops[i]? = some oi)
    (hs : Region.noSelect ops = true) (hf : Region.free md ops listed i = true) (hr : (Region.ready md ops listed).contains i = true)
    (hQ : ∀ c a w, Q (.panic c) (a.put oi.dst v) w → Q (.panic c) a w) (hq : ∀ e ∈ held, e.2.2 ≠ i) (hy : YieldsIf P ops (fun w => ∀ p ∈ need, w.cell? p.1 = some p.2) oi v a)
    (hn : ∀ p ∈ need, ∃ q, (p.1, p.2, q) ∈ held ∧ listed.getD q false = false ∧ Waits md ops q i) (hS : HS held listed w)
    (h : wpAnyU P md ops Q held fuel (listed.setIfInBounds i true) (a.put oi.dst v) w) : wpAnyU P md ops Q held (fuel + 1) listed a w :=
  wpAnyU_first hi (Region.noSelect_spec hs) hQ hq fuel listed a w (Region.free_spec hi hf) (by simpa using hr) hy hn hS h

theorem wpAnyU_all {rs : List Nat} {fuel : Nat} {listed : Array Bool} {a : Act} {w : World} {held : List (Addr × Value × Nat)} (hr : Region.ready md ops listed = rs) (hne : rs ≠ [])
    (h : ∀ i ∈ rs, wpOp P ops Q i (fun a' w' => HS held (listed.setIfInBounds i true) w' ∧ wpAnyU P md ops Q held fuel (listed.setIfInBounds i true) a' w') a w) : wpAnyU P md ops Q held (fuel + 1) listed a w :=
  ⟨fun h0 => absurd (hr ▸ h0) hne, hr ▸ h⟩
theorem wpAnyU_done {listed : Array Bool} {a : Act} {w : World} {held : List (Addr × Value × Nat)} (hr : Region.ready md ops listed = []) (h : Q .normal a w) :
    ∀ fuel, wpAnyU P md ops Q held fuel listed a w
  | 0 => ⟨hr, h⟩
  | _ + 1 => ⟨fun _ => h, by rw [hr]; simp⟩
end
end Go.Sx
