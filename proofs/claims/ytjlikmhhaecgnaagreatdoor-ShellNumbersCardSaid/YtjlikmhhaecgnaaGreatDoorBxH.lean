/- The plan of a region, by bit masks: the same as the plan by lists. -/
import Derived.Test.YtjlikmhhaecgnaaGreatDoorBxF
namespace Go.Ax
set_option linter.unusedVariables false
open Go.Sx

noncomputable def readyM (es : List En) (m : Nat) : List En := filB (fun e => Bool.rec (subB e.dep m) false (bitB m e.i)) es
noncomputable def behR (m : Nat) (es : List En) : List En → Nat → List En := List.rec (fun S _ => S) (fun e _ ih S Sm => Bool.rec (ih S Sm) (ih (e :: S) (setB Sm e.i)) (Bool.rec (meetB e.dep Sm) false (bitB m e.i))) es
noncomputable def revE (l : List En) : List En → List En := List.rec (fun acc => acc) (fun a _ ih acc => ih (a :: acc)) l
noncomputable def untR (sz : Nat) (l : List En) : Nat := List.rec sz (fun e _ ih => Bool.rec ih e.i (isEff e.o)) l
noncomputable def untM (sz : Nat) (S : List En) : Nat := untR sz (revE S [])
noncomputable def takeM (P : Program) (n : Nat) (ops : Array Oper) (es : List En) (m : Nat) (e : En) : Option Stp :=
  match cread P e.o with
  | some (rd, hd, x) => some (.l (untM ops.size (behR m es [] (setB 0 e.i))) (cg n ops e.o) (cd n e.o.dst) rd (hd (untM ops.size (behR m es [] (setB 0 e.i)))) (ca x))
  | none => (match cpure P e.o with | some g => some (.t (cg n ops e.o) (cd n e.o.dst) g) | none => none)
noncomputable def firstE {α : Type} (g : En → Option α) (l : List En) : Option (En × α) := List.rec none (fun e _ ih => match g e with | some x => some (e, x) | none => ih) l
noncomputable def pickM (P : Program) (l : List En) : Option En := match filB (fun e => !flP P e.o) l with | [] => l.head? | [e] => some e | _ => none
noncomputable def flmR (P : Program) (l : List En) : Nat := List.rec 0 (fun e _ ih => Bool.rec ih (setB ih e.i) (flP P e.o)) l
noncomputable def starM (flm m i : Nat) : Nat := Nat.lor m (Bool.rec flm (Nat.xor flm (Nat.shiftLeft 1 i)) (bitB flm i))
noncomputable def cplanM (P : Program) (n : Nat) (ops : Array Oper) (es : List En) (flm fuel : Nat) : Nat → Option (List Stp) :=
  Nat.rec (fun m => match readyM es m with | [] => some [] | _ => none)
    (fun _ ih m => match readyM es m with
      | [] => some []
      | r :: rs => match firstE (takeM P n ops es m) (r :: rs) with
        | some (e, s) => (match ih (setB m e.i) with | some l => some (relax l s :: l) | none => none)
        | none => match pickM P (r :: rs) with
          | some e => bif allE (fun k => Nat.beq k.i e.i) (readyM es (starM flm m e.i)) then
              (match ih (setB m e.i) with | some l => some (.o e.i (bitB (setB m e.i)) (cins P n ops e.o) :: l) | none => none)
            else none
          | none => none) fuel

def Rel (ops : Array Oper) (m : Nat) (L : Array Bool) : Prop := L.size = ops.size ∧ ∀ q, m.testBit q = L.getD q false
section
variable {P : Program} {n : Nat} {ops : Array Oper}
theorem bex {a b : Bool} (h : a = true ↔ b = true) : a = b := by cases a <;> cases b <;> simp_all
theorem getD_lt {L : Array Bool} {k : Nat} (h : k < L.size) : L.getD k true = L.getD k false := by simp [Array.getD, h]
theorem readyM_eq {m : Nat} {L : Array Bool} (h : Rel ops m L) : (readyM (enL ops.toList 0) m).map En.i = Region.ready .any ops L := by
  unfold readyM Region.ready
  refine enL_filter ops _ _ fun j o hj => ?_
  have hlt : j < L.size := by rw [h.1]; exact (Array.getElem?_eq_some_iff.1 hj).1
  rw [getD_lt hlt, hj]
  show Bool.rec (subB (depL o.after.toList) m) false (bitB m j) = (!L.getD j false && (o.after.all fun e => !Region.binds .any e || L.getD e.on false))
  rw [bitB_eq, h.2 j]
  cases L.getD j false with
  | true => rfl
  | false =>
    refine bex (subB_iff.trans ?_)
    simp only [Bool.not_false, Bool.true_and]
    rw [Array.all_eq_true']
    constructor
    · intro hh e he
      cases hb : Region.binds .any e with
      | false => rfl
      | true =>
        have := hh e.on ((depL_bit _ _).2 ⟨e, by simpa using he, hb, rfl⟩)
        rw [h.2] at this
        rw [this]; rfl
    · intro hh j hj
      obtain ⟨e, he, hb, rfl⟩ := (depL_bit _ _).1 hj
      have := hh e (by simpa using he)
      rw [hb] at this
      rw [h.2]
      simpa using this
theorem readyM_mem {m : Nat} {e : En} (h : e ∈ readyM (enL ops.toList 0) m) : ops[e.i]? = some e.o ∧ e = mkE e.i e.o := by
  unfold readyM at h
  rw [filB_eq] at h
  obtain ⟨j, o, hj, he⟩ := (enL_mem _ _ _).1 (List.mem_filter.1 h).1
  subst he
  exact ⟨by show ops[0 + j]? = some o; rw [Nat.zero_add]; simpa using hj, rfl⟩
theorem Rel.set {m : Nat} {L : Array Bool} (h : Rel ops m L) {i : Nat} (hi : i < ops.size) : Rel ops (setB m i) (L.setIfInBounds i true) := by
  refine ⟨by simpa using h.1, fun q => ?_⟩
  rw [setB_bit, h.2 q]
  have hi' : i < L.size := by rw [h.1]; exact hi
  by_cases hq : i = q
  · subst hq
    simp [Array.getD_eq_getD_getElem?, hi']
  · simp [Array.getD_eq_getD_getElem?, hq]
theorem flmR_bit (l : List Oper) : ∀ k q, (flmR P (enL l k)).testBit q = true ↔ ∃ j o, l[j]? = some o ∧ q = k + j ∧ flP P o = true := by
  induction l with
  | nil =>
    intro k q
    have e0 : flmR P (enL [] k) = 0 := rfl
    rw [e0, Nat.zero_testBit]
    exact ⟨fun h => absurd h (by decide), fun ⟨j, o, h, _⟩ => absurd h (by simp)⟩
  | cons o l ih =>
    intro k q
    have e0 : flmR P (enL (o :: l) k) = Bool.rec (flmR P (enL l (k + 1))) (setB (flmR P (enL l (k + 1))) k) (flP P o) := rfl
    rw [e0]
    cases hf : flP P o with
    | false =>
      refine (ih (k + 1) q).trans ⟨fun ⟨j, o', h1, h2, h3⟩ => ⟨j + 1, o', by simpa using h1, by omega, h3⟩, fun ⟨j, o', h1, h2, h3⟩ => ?_⟩
      cases j with
      | zero => simp at h1; subst h1; rw [hf] at h3; cases h3
      | succ j => exact ⟨j, o', by simpa using h1, by omega, h3⟩
    | true =>
      show (setB (flmR P (enL l (k + 1))) k).testBit q = true ↔ _
      rw [setB_bit, Bool.or_eq_true, ih, decide_eq_true_iff]
      constructor
      · rintro (⟨j, o', h1, h2, h3⟩ | h)
        · exact ⟨j + 1, o', by simpa using h1, by omega, h3⟩
        · exact ⟨0, o, rfl, by omega, hf⟩
      · rintro ⟨j, o', h1, h2, h3⟩
        cases j with
        | zero => right; omega
        | succ j => exact .inl ⟨j, o', by simpa using h1, by omega, h3⟩
theorem Rel.star {m : Nat} {L : Array Bool} (h : Rel ops m L) (i : Nat) : Rel ops (starM (flmR P (enL ops.toList 0)) m i) (starB P ops L i) := by
  refine ⟨by simp [starB], fun q => ?_⟩
  have hfl : (flmR P (enL ops.toList 0)).testBit q = (match ops[q]? with | some oj => flP P oj | none => false) := by
    refine bex ((flmR_bit _ 0 q).trans ?_)
    constructor
    · rintro ⟨j, o, h1, h2, h3⟩
      have : ops[q]? = some o := by rw [h2, Nat.zero_add]; simpa using h1
      rw [this]; exact h3
    · intro hh
      split at hh
      · rename_i o ho
        exact ⟨q, o, by simpa using ho, by omega, hh⟩
      · cases hh
  have hx : ∀ fm : Nat, (Bool.rec fm (Nat.xor fm (Nat.shiftLeft 1 i)) (bitB fm i) : Nat).testBit q = (!Nat.beq q i && fm.testBit q) := by
    intro fm
    rw [bitB_eq]
    have hb : Nat.beq q i = decide (i = q) := by
      by_cases hqi : q = i
      · subst hqi; simp
      · rw [beq_ne hqi]; simp [Ne.symm hqi]
    cases hfi : fm.testBit i with
    | false =>
      show fm.testBit q = _
      by_cases hqi : q = i
      · subst hqi; rw [hfi]; simp
      · rw [beq_ne hqi]; simp
    | true =>
      show (fm ^^^ (1 <<< i)).testBit q = _
      rw [Nat.testBit_xor, Nat.one_shiftLeft, Nat.testBit_two_pow, hb]
      by_cases hqi : i = q
      · subst hqi; rw [hfi]; simp
      · simp [hqi]
  have hs : (starM (flmR P (enL ops.toList 0)) m i).testBit q = (m.testBit q || (!Nat.beq q i && (flmR P (enL ops.toList 0)).testBit q)) := by
    rw [← hx]
    exact Nat.testBit_or ..
  rw [hs, h.2 q, hfl]
  unfold starB
  by_cases hq : q < ops.size
  · simp [Array.getD_eq_getD_getElem?, hq]
  · have h1 : L.getD q false = false := by simp [Array.getD, h.1, hq]
    have h2 : ops[q]? = none := by simp; omega
    rw [h1, h2]
    simp [Array.getD_eq_getD_getElem?, hq]
end
end Go.Ax
